
/-
  PLAIN LAWS: deals one behind the other by rising numbers: what is seen is what reads read; by numbers and by locks all is told as it was asked (agree).
  CONTRACT of valid.Run: what any ops come to, looked at when deals end.
  CONTRACT of history.Deals where the ops are right.
  CONTRACT of lanetop.one: a closed fact that holds.
  CONTRACT of view.Reads.
-/
import Derived.Test.YtmehghkpghbpjaaGreatQ42
import Derived.Test.YtmehghkpghbpjaaGreatQ4
import Derived.Test.YtmehghkpghbpjaaGreatQ19
import Derived.Test.YtmehghkpghbpjaaGreatQ14
import Derived.Test.YtmehghkpghbpjaaGreatQ25
import Derived.Test.YtmehghkpghbpjaaGreatQ41
import Derived.Test.YtmehghkpghbpjaaGreatQ39
import Derived.Test.YtmehghkpghbpjaaGreatQ34
import Derived.Test.YtmehghkpghbpjaaGreatQ28
import Derived.Test.YtmehghkpghbpjaaGreatQ36
import Derived.Test.YtmehghkpghbpjaaGreatQ40

namespace Go.Proofs.YtmehghkpghbpjaaGreat
open Go.RowKit

/-! ### What is seen is what the reads read. -/
def Mt (s : List HOp) : List HOp → List (Int × Int) → Prop
  | [], [] => True
  | q :: a, p :: b => (q.item = p.2 ∧ 0 ≤ p.1 ∧ ∃ o, s[p.1.toNat]? = some o ∧ q.what = o.item) ∧ Mt s a b
  | _, _ => False
theorem Mt.append {s : List HOp} : ∀ {a : List HOp} {b : List (Int × Int)} {c : List HOp} {d : List (Int × Int)}, Mt s a b → Mt s c d → Mt s (a ++ c) (b ++ d)
  | [], [], _, _, _, h => h
  | _ :: _, _ :: _, _, _, h, h' => ⟨h.1, Mt.append h.2 h'⟩
  | [], _ :: _, _, _, h, _ => h.elim
  | _ :: _, [], _, _, h, _ => h.elim
theorem Mt.len {s : List HOp} : ∀ {a : List HOp} {b : List (Int × Int)}, Mt s a b → a.length = b.length
  | [], [], _ => rfl
  | _ :: a, _ :: b, h => by simp [Mt.len h.2]
  | [], _ :: _, h => h.elim
  | _ :: _, [], h => h.elim
theorem Mt.at {s : List HOp} : ∀ {a : List HOp} {b : List (Int × Int)}, Mt s a b → ∀ {i : Nat} {q : HOp} {p : Int × Int}, a[i]? = some q → b[i]? = some p → q.item = p.2 ∧ 0 ≤ p.1 ∧ ∃ o, s[p.1.toNat]? = some o ∧ q.what = o.item
  | [], [], _, i, q, p, h1, _ => by simp at h1
  | x :: a, y :: b, h, 0, q, p, h1, h2 => by
    simp only [List.getElem?_cons_zero, Option.some.injEq] at h1 h2
    rw [← h1, ← h2]; exact h.1
  | x :: a, y :: b, h, i + 1, q, p, h1, h2 => Mt.at h.2 (by simpa using h1) (by simpa using h2)
  | [], _ :: _, h, _, _, _, _, _ => h.elim
  | _ :: _, [], h, _, _, _, _, _ => h.elim
def srcB (t : Int) (la : List Int) : Int → List Int → List HOp → List (Int × Int)
  | _, _, [] => []
  | i, w, o :: r => if o.what = 1 then (i, if o.item ∈ w then t else la.getD (o.item.toNat - 1) 0) :: srcB t la (i + 1) w r else srcB t la (i + 1) (w ++ [o.item]) r
theorem look_block {t : Int} {la : List Int} (hla : la.length = 6) (r : List HOp) : ∀ (l : List HOp) (i : Int) (w : List Int) (out : List (Int × Int)), blkOk t l → (∀ i ∈ w, 1 ≤ i ∧ i ≤ 6) →
    lookGo i (setsL t w la) out (l ++ ⟨t, 3, 0⟩ :: r) = lookGo (i + l.length + 1) (setsL t (wroB w l) la) (out ++ srcB t la i w l) r
  | [], i, w, out, _, _ => by simp [lookGo, srcB, wroB]
  | o :: q, i, w, out, hb, hw => by
    obtain ⟨h1, h2, h3, h4⟩ := hb o List.mem_cons_self
    have hq : blkOk t q := fun x hx => hb x (List.mem_cons_of_mem _ hx)
    obtain ⟨tx, what, item⟩ := o
    simp only at h1 h2 h3 h4
    subst h1
    have el : i + 1 + (q.length : Int) = i + ((⟨tx, what, item⟩ : HOp) :: q).length := by simp; omega
    rcases h2 with h2 | h2
    · subst h2
      show lookGo (i + 1) _ (out ++ [(i, (setsL tx w la).getD (item.toNat - 1) 0)]) (q ++ ⟨tx, 3, 0⟩ :: r) = _
      rw [look_block hla r q (i + 1) w _ hq hw, el, setsL_get hla hw h3 h4]
      simp [srcB, wroB]
    · subst h2
      show lookGo (i + 1) ((setsL tx w la).set (item.toNat - 1) tx) _ (q ++ ⟨tx, 3, 0⟩ :: r) = _
      have ih := look_block hla r q (i + 1) (w ++ [item]) out hq (fun j hj => by
        rcases List.mem_append.1 hj with hj | hj
        · exact hw j hj
        · rw [List.mem_singleton.1 hj]; exact ⟨h3, h4⟩)
      rw [setsL_snoc] at ih
      rw [ih, el]
      simp [srcB, wroB]
theorem mt_block {t : Int} {la : List Int} {s : List HOp} : ∀ (l : List HOp) (i : Nat) (w : List Int), (∀ j o, l[j]? = some o → s[i + j]? = some o) → Mt s (seeB t la w l) (srcB t la i w l)
  | [], _, _, _ => trivial
  | o :: q, i, w, h => by
    have hq : ∀ j x, q[j]? = some x → s[i + 1 + j]? = some x := fun j x hx => by
      rw [show i + 1 + j = i + (j + 1) by omega]
      exact h (j + 1) x (by simpa using hx)
    have h0 := h 0 o rfl
    have e : ((i : Int) + 1) = ((i + 1 : Nat) : Int) := by omega
    unfold seeB srcB
    split
    · rw [e]
      exact ⟨⟨rfl, Int.natCast_nonneg i, o, by simpa using h0, rfl⟩, mt_block q (i + 1) w hq⟩
    · rw [e]
      exact mt_block q (i + 1) _ hq
theorem look_blocks {s : List HOp} : ∀ (bs : List (Int × List HOp)) (b : Int) (k : Nat) (ds : List Dl) (dn last : List Int) (out : List (Int × Int)), last.length = 6 → RisB b bs → s.drop k = flatB bs →
    ∃ X Y, (lookGo k last out (flatB bs)).1 = out ++ X ∧ ((serGo k ds dn last bs).1.flatMap (·.seen)) = ds.flatMap (·.seen) ++ Y ∧ Mt s Y X
  | [], _, _, ds, _, _, out, _, _, _ => ⟨[], [], by simp [flatB, lookGo], by simp [serGo], trivial⟩
  | (t, l) :: r, b, k, ds, dn, last, out, hl, hris, hs => by
    obtain ⟨_, h2, h3⟩ := hris
    rw [flatB_cons] at hs ⊢
    have e := look_block (t := t) hl (flatB r) l k [] out h2 (fun _ h => by cases h)
    rw [show setsL t [] last = last from rfl] at e
    rw [e]
    have hs2 : s.drop (k + l.length + 1) = flatB r := by
      have : s.drop (k + (l.length + 1)) = (s.drop k).drop (l.length + 1) := by rw [List.drop_drop]
      rw [Nat.add_assoc, this, hs, show l ++ ⟨t, 3, 0⟩ :: flatB r = (l ++ [⟨t, 3, 0⟩]) ++ flatB r by simp]
      exact List.drop_left' (by simp)
    obtain ⟨X, Y, i1, i2, i3⟩ := look_blocks (s := s) r t (k + l.length + 1) (ds ++ [blkD t k last l]) (dn ++ [t]) (setsL t (wroB [] l) last) (out ++ srcB t last k [] l) (by rw [setsL_len]; exact hl) h3 hs2
    refine ⟨srcB t last k [] l ++ X, seeB t last [] l ++ Y, ?_, ?_, ?_⟩
    · rw [show (k : Int) + l.length + 1 = ((k + l.length + 1 : Nat) : Int) by omega, i1]; simp
    · show ((serGo (k + l.length + 1) _ _ _ r).1.flatMap _) = _
      rw [i2]; simp [blkD]
    · refine Mt.append (mt_block l k [] fun j o hj => ?_) i3
      have := congrArg (fun z => z[j]?) hs
      simp only [List.getElem?_drop] at this
      rw [this, List.getElem?_append_left (List.getElem?_eq_some_iff.1 hj).1]
      exact hj

/-! ### By numbers: nobody comes too late. -/
theorem stamp_in {t : Int} (r : List HOp) : ∀ (l : List HOp) (ms : List (Int × Int)) (told : List HOp), blkOk t l → ms.length = 7 → (∀ i, (ms.getD i (0, 0)).1 ≤ t ∧ (ms.getD i (0, 0)).2 ≤ t) →
    ∃ ms', ms'.length = 7 ∧ (∀ i, (ms'.getD i (0, 0)).1 ≤ t ∧ (ms'.getD i (0, 0)).2 ≤ t) ∧ stampGo false ms told [] (l ++ ⟨t, 3, 0⟩ :: r) = stampGo false ms' (told ++ l ++ [⟨t, 3, 0⟩]) [] r
  | [], ms, told, _, h7, hm => ⟨ms, h7, hm, by simp [stampGo, endsB]⟩
  | o :: q, ms, told, hb, h7, hm => by
    obtain ⟨h1, h2, h3, h4⟩ := hb o List.mem_cons_self
    have hq : blkOk t q := fun x hx => hb x (List.mem_cons_of_mem _ hx)
    obtain ⟨tx, what, item⟩ := o
    simp only at h1 h2 h3 h4
    subst h1
    have hi := hm item.toNat
    have hlt : item.toNat < ms.length := by omega
    have he : endsB ⟨tx, what, item⟩ = false := by unfold endsB; simp; omega
    have key : ∀ p : Int × Int, p.1 ≤ tx → p.2 ≤ tx → ∀ i, ((ms.set item.toNat p).getD i (0, 0)).1 ≤ tx ∧ ((ms.set item.toNat p).getD i (0, 0)).2 ≤ tx := fun p p1 p2 i => by
      by_cases e : item.toNat = i
      · rw [← e, getD_set hlt]; exact ⟨p1, p2⟩
      · rw [List.getD_eq_getElem?_getD, List.getElem?_set_ne e, ← List.getD_eq_getElem?_getD]; exact hm i
    generalize hmm : ms.getD item.toNat (0, 0) = m at hi
    obtain ⟨m1, m2⟩ := m
    simp only at hi
    rcases h2 with h2 | h2
    · subst h2
      have hl : lookM m1 m2 ⟨tx, 1, item⟩ false = (0, max m1 tx, m2) := by unfold lookM; rw [if_pos rfl, if_neg (by simp only; omega)]
      obtain ⟨ms', g1, g2, g3⟩ := stamp_in r q (ms.set item.toNat (max m1 tx, m2)) (told ++ [⟨tx, 1, item⟩]) hq (by simpa using h7) (key _ (by simp only; omega) hi.2)
      refine ⟨ms', g1, g2, ?_⟩
      show (if tx ∈ [] then _ else if endsB _ = true then _ else _) = _
      rw [if_neg (by simp), if_neg (by rw [he]; simp)]
      simp only
      rw [hmm, hl, if_pos rfl]
      refine Eq.trans g3 ?_
      simp
    · subst h2
      have hl : lookM m1 m2 ⟨tx, 2, item⟩ false = (0, m1, tx) := by unfold lookM; rw [if_neg (by simp), if_neg (by simp only; omega), if_neg (by simp only; omega)]
      obtain ⟨ms', g1, g2, g3⟩ := stamp_in r q (ms.set item.toNat (m1, tx)) (told ++ [⟨tx, 2, item⟩]) hq (by simpa using h7) (key _ hi.1 (by simp only; omega))
      refine ⟨ms', g1, g2, ?_⟩
      show (if tx ∈ [] then _ else if endsB _ = true then _ else _) = _
      rw [if_neg (by simp), if_neg (by rw [he]; simp)]
      simp only
      rw [hmm, hl, if_pos rfl]
      refine Eq.trans g3 ?_
      simp
theorem stamp_blocks : ∀ (bs : List (Int × List HOp)) (b : Int) (ms : List (Int × Int)) (told : List HOp), RisB b bs → ms.length = 7 → (∀ i, (ms.getD i (0, 0)).1 ≤ b ∧ (ms.getD i (0, 0)).2 ≤ b) →
    stampGo false ms told [] (flatB bs) = (told ++ flatB bs, [])
  | [], _, ms, told, _, _, _ => by simp [flatB, stampGo]
  | (t, l) :: r, b, ms, told, hris, h7, hm => by
    obtain ⟨h1, h2, h3⟩ := hris
    obtain ⟨ms', g1, g2, g3⟩ := stamp_in (flatB r) l ms told h2 h7 (fun i => by have := hm i; omega)
    rw [flatB_cons, g3, stamp_blocks r t ms' _ h3 g1 g2]
    simp

/-! ### With locks that are kept nobody waits. -/
theorem calm_in {t : Int} (ht : 1 ≤ t ∧ t ≤ 6) {r : List HOp} (hr : calmGo [] r) : ∀ (l : List HOp) (H : List HOp), blkOk t l → (∀ y ∈ H, y.tx = t) → calmGo H (l ++ ⟨t, 3, 0⟩ :: r)
  | [], H, _, hH => by
    have h5 := nextH_end (H := H) (o := ⟨t, 3, 0⟩) rfl hH
    refine ⟨.inl rfl, ?_⟩
    rw [h5]; exact hr
  | o :: q, H, hb, hH => by
    obtain ⟨h1, h2, h3, h4⟩ := hb o List.mem_cons_self
    have hq : blkOk t q := fun x hx => hb x (List.mem_cons_of_mem _ hx)
    obtain ⟨tx, what, item⟩ := o
    simp only at h1 h2 h3 h4
    subst h1
    have r1 : lrightB (lockOf ⟨tx, what, item⟩) = true := by
      rcases h2 with rfl | rfl <;> simp [lrightB, lockOf, txB] <;> omega
    have he : endB ⟨tx, what, item⟩ = false := by unfold endB; simp; omega
    obtain ⟨g1, g2⟩ := nextH_ask (H := H) (o := ⟨tx, what, item⟩) he r1 hH
    exact ⟨.inr ⟨r1, g1⟩, calm_in ht hr q _ hq g2⟩
theorem calm_blocks : ∀ (bs : List (Int × List HOp)) (b : Int), 0 ≤ b → RisB b bs → (∀ p ∈ bs, p.1 ≤ 6) → calmGo [] (flatB bs)
  | [], _, _, _, _ => trivial
  | (t, l) :: r, b, hb, hris, h6 => by
    obtain ⟨h1, h2, h3⟩ := hris
    have ht := h6 (t, l) List.mem_cons_self
    simp only at ht
    rw [flatB_cons]
    exact calm_in ⟨by omega, ht⟩ (calm_blocks r t (by omega) h3 fun p hp => h6 p (List.mem_cons_of_mem _ hp)) l [] h2 (fun _ h => by cases h)

/-! ### A history's own blocks. -/
theorem own_block {h : List HOp} (hk : okH h) {t : Int} (ht : t ∈ dealsL (doneL h)) : ∃ l, blkOk t l ∧ ownL (doneL h) t = l ++ [⟨t, 3, 0⟩] := by
  obtain ⟨x, hx, rfl⟩ := mem_dealsL.1 ht
  obtain ⟨_, c, hc, hct, hc3⟩ := (mem_doneL (okH_tx hk)).1 hx
  have hkd := okH_done hk
  have hcd : c ∈ doneL h := (mem_doneL (okH_tx hk)).2 ⟨hc, c, hc, rfl, hc3⟩
  obtain ⟨a, r, e⟩ := List.append_of_mem hcd
  rw [e] at hkd ⊢
  obtain ⟨hrc, hna⟩ := okH_after hkd
  have hce := rightB_end hrc hc3
  have hr : ownL r x.tx = [] := by
    unfold ownL
    rw [List.filter_eq_nil_iff]
    intro y hy hyt
    obtain ⟨r1, r2, e2⟩ := List.append_of_mem hy
    rw [e2, show a ++ c :: (r1 ++ y :: r2) = (a ++ c :: r1) ++ y :: r2 by simp] at hkd
    have h1 := (okH_after hkd).2
    unfold endIn at h1
    have h2 := List.any_eq_false.1 h1 c (by simp)
    simp only [decide_eq_true_eq] at h2 hyt
    exact h2 ⟨hct.trans hyt.symm, by omega⟩
  refine ⟨ownL a x.tx, fun y hy => ?_, ?_⟩
  · obtain ⟨hya, hyt⟩ := List.mem_filter.1 hy
    simp only [decide_eq_true_eq] at hyt
    have hyr := okH_right hkd y (List.mem_append_left _ hya)
    obtain ⟨_, _, h3, h4, h5, _⟩ := rightB_get hyr
    unfold endIn at hna
    have h2 := List.any_eq_false.1 hna y hya
    simp only [decide_eq_true_eq] at h2
    have h6 : ¬ 3 ≤ y.what := fun h => h2 ⟨hyt.trans hct.symm, h⟩
    exact ⟨hyt, by omega, h5 (by omega)⟩
  · rw [show a ++ c :: r = a ++ [c] ++ r by simp, ownL_append, ownL_append, hr, List.append_nil]
    congr 1
    unfold ownL
    rw [← hct, hce]
    simp
theorem ris_up : ∀ {bs : List (Int × List HOp)} {b : Int}, Up ltI (bs.map (·.1)) → (∀ p ∈ bs, b < p.1 ∧ blkOk p.1 p.2) → RisB b bs := by
  intro bs
  induction bs with
  | nil => intro b _ _; trivial
  | cons p r ih =>
    intro b hu hb
    obtain ⟨t, l⟩ := p
    have h0 := hb (t, l) List.mem_cons_self
    rw [List.map_cons] at hu
    have hu2 : Up ltI (r.map (·.1)) := (List.pairwise_cons.1 hu).2
    refine ⟨h0.1, h0.2, ih hu2 fun p hp => ⟨?_, (hb p (List.mem_cons_of_mem _ hp)).2⟩⟩
    have := (List.pairwise_cons.1 hu).1 p.1 (List.mem_map.2 ⟨p, hp, rfl⟩)
    simpa [ltI] using this
theorem own_blocks {h : List HOp} (hk : okH h) : ∃ bs, RisB 0 bs ∧ bs.map (·.1) = dealsL (doneL h) ∧ alongL (doneL h) (dealsL (doneL h)) = flatB bs := by
  have key : ∀ q : List Int, (∀ t ∈ q, t ∈ dealsL (doneL h)) → ∃ bs : List (Int × List HOp), bs.map (·.1) = q ∧ (∀ p ∈ bs, blkOk p.1 p.2) ∧ alongL (doneL h) q = flatB bs := by
    intro q
    induction q with
    | nil => intro _; exact ⟨[], rfl, fun _ h => (by cases h), rfl⟩
    | cons t q ih =>
      intro hq
      obtain ⟨bs, g1, g2, g3⟩ := ih fun x hx => hq x (List.mem_cons_of_mem _ hx)
      obtain ⟨l, hl, e⟩ := own_block hk (hq t List.mem_cons_self)
      refine ⟨(t, l) :: bs, by simp [g1], fun p hp => ?_, ?_⟩
      · rcases List.mem_cons.1 hp with rfl | hp
        · exact hl
        · exact g2 p hp
      · rw [alongL_cons, g3, e, flatB_cons]; simp
  obtain ⟨bs, g1, g2, g3⟩ := key (dealsL (doneL h)) fun _ h => h
  refine ⟨bs, ris_up (by rw [g1]; exact dealsL_up _) fun p hp => ⟨?_, g2 p hp⟩, g1, g3⟩
  have : p.1 ∈ dealsL (doneL h) := by rw [← g1]; exact List.mem_map.2 ⟨p, hp, rfl⟩
  obtain ⟨o, ho, e⟩ := mem_dealsL.1 this
  have := done_tx (okH_tx hk) o ho
  omega

theorem look_len : ∀ (h : List HOp) (i : Int) (last : List Int) (out : List (Int × Int)), (lookGo i last out h).1.length ≤ out.length + h.length
  | [], _, _, _ => Nat.le_refl _
  | o :: t, i, last, out => by
    unfold lookGo
    rw [List.length_cons]
    split
    · have := look_len t (i + 1) last (out ++ [(i, last.getD (o.item.toNat - 1) 0)])
      rw [List.length_append, List.length_singleton] at this
      omega
    · split
      · have := look_len t (i + 1) (last.set (o.item.toNat - 1) o.tx) out
        omega
      · have := look_len t (i + 1) last out
        omega
/-! ### All agree. -/
structure AgreeL (s : List HOp) (o : List Int) (dn last : List Int) (seen : List HOp) : Prop where
  ok : okH s
  done : doneL s = s
  len : (lookF s).1.length ≤ 40
  v : (playV validR s).dn = dn ∧ (playV validR s).last = last ∧ seenOf (playV validR s) = seen
  n : (playV snapR s).dn = dn ∧ (playV snapR s).last = last ∧ seenOf (playV snapR s) = seen
  r : ∀ ts, ByNum (playV verR s) ts → ts = dn ∧ lastOf (ts.map (dgd (playV verR s))) = last ∧ seenOf { playV verR s with dn := ts } = seen
  dno : dn = o
  mt : Mt s seen (lookF s).1
  stamp : stampF false s = (s, [])
  calm : calmGo [] s
theorem agree {h : List HOp} (hk : okH h) : ∃ last seen, AgreeL (alongL (doneL h) (dealsL (doneL h))) (dealsL (doneL h)) (dealsL (doneL h)) last seen := by
  obtain ⟨bs, hris, hm, hs⟩ := own_blocks hk
  have hse : serE h (dealsL (doneL h)) = 0 := serE_of hk (dealsL_nodup _) (fun _ => Iff.rfl)
  have hok := okH_along hk hse
  have hdone := along_doneL (okH_tx hk) (dealsL (doneL h))
  rw [hs] at hok hdone ⊢
  have h6 : ∀ p ∈ bs, p.1 ≤ 6 := fun p hp => by
    have : p.1 ∈ dealsL (doneL h) := by rw [← hm]; exact List.mem_map.2 ⟨p, hp, rfl⟩
    obtain ⟨o, ho, e⟩ := mem_dealsL.1 this
    have := done_tx (okH_tx hk) o ho
    omega
  have hup : Up ltI (dealsL (doneL h)) := dealsL_up _
  generalize dealsL (doneL h) = o at *
  have B := fun (R : VRules) (hR : R = validR ∨ R = snapR ∨ R = verR) => blocks_run hR bs 0 0 [] [] [0, 0, 0, 0, 0, 0] [] (Int.le_refl _) serR0 (fun _ h => by cases h) hris (fun _ _ h => by cases h)
  obtain ⟨⟨l1, v1⟩, ⟨k, K⟩, hdn⟩ := B validR (.inl rfl)
  obtain ⟨⟨l2, v2⟩, _, _⟩ := B snapR (.inr (.inl rfl))
  obtain ⟨⟨l3, v3⟩, _, _⟩ := B verR (.inr (.inr rfl))
  obtain ⟨X, Y, x1, x2, x3⟩ := look_blocks (s := flatB bs) bs 0 0 [] [] [0, 0, 0, 0, 0, 0] [] rfl hris rfl
  change playV validR (flatB bs) = _ at v1
  change playV snapR (flatB bs) = _ at v2
  change playV verR (flatB bs) = _ at v3
  generalize serGo 0 [] [] [0, 0, 0, 0, 0, 0] bs = T at *
  obtain ⟨ds, dn, last⟩ := T
  simp only at *
  rw [List.nil_append] at hdn
  rw [List.flatMap_nil, List.nil_append] at x2
  have hdo : dn = o := by rw [hdn]; exact hm
  have hD : ∀ lo, doneD ⟨ds, dn, last, lo⟩ = ds := fun lo => Ser.doneD (k := k) ⟨K.ser.dn, K.ser.nd, K.ser.apart, K.ser.ended⟩
  have hS : ∀ lo, seenOf ⟨ds, dn, last, lo⟩ = ds.flatMap (·.seen) := fun lo => by unfold seenOf; rw [hD]
  refine ⟨last, ds.flatMap (·.seen), ⟨hok, hdone, Nat.le_trans (look_len _ _ _ _) (by have := okH_len hok; simpa using this), ?_, ?_, ?_, rfl, ?_, ?_, calm_blocks bs 0 (Int.le_refl _) hris h6⟩⟩
  · rw [v1, hS]; exact ⟨hdo, rfl, rfl⟩
  · rw [v2, hS]; exact ⟨hdo, rfl, rfl⟩
  · intro ts H
    rw [v3] at H ⊢
    have hts : ts = o := by
      have hlt := H.lt (by show dn.Nodup; rw [hdo]; exact up_nodup hup)
      refine up_ext sloI (by unfold Up; exact hlt.imp fun h => by simpa [ltI] using h) hup fun x => ?_
      rw [H.perm.mem_iff]
      show x ∈ dn ↔ _
      rw [hdo]
    subst hts
    refine ⟨rfl, ?_, ?_⟩
    · show lastOf (ts.map (dgd ⟨ds, dn, last, l3⟩)) = last
      rw [← hdo]
      exact (congrArg lastOf (hD l3)).trans K.lst.symm
    · show seenOf ⟨ds, ts, last, l3⟩ = _
      rw [← hdo]; exact hS l3
  · have : (lookF (flatB bs)).1 = X := by
      have e : lookF (flatB bs) = lookGo ((0 : Nat) : Int) [0, 0, 0, 0, 0, 0] [] (flatB bs) := rfl
      rw [e, x1, List.nil_append]
    rw [this, x2]; exact x3
  · have := stamp_blocks bs 0 (List.replicate 7 (0, 0)) [] hris rfl (fun i => by
      rw [List.getD_eq_getElem?_getD, List.getElem?_replicate]
      split <;> exact ⟨Int.le_refl _, Int.le_refl _⟩)
    rw [List.nil_append] at this
    exact this
end Go.Proofs.YtmehghkpghbpjaaGreat


namespace Go.Proofs.YtmehghkpghbpjaaGreat
open Go.RowKit

set_option maxHeartbeats 400000 in
theorem indexFunc_seen (A : Option Addr) (n cap : Nat) (h : List HOp) (F : FuncId) (caps : Array Value) (p : HOp → Bool) (w : World) (hr : Rd w w.heap.size 3 A n (cellsH h)) (hm : n ≤ 6000000000000)
    (hcall : ∀ (args : Array Value) (w : World), (callFunc F args).run Tryz.prog w = .ok (.enter F args) w)
    (hf : ∀ o ∈ h, ∀ w', Below w.heap.size w w' → Calls Tryz.prog F (#[o.val] ++ caps) w' fun e w'' => e = .returned (.bool (p o)) ∧ Below w'.heap.size w' w'') :
    Calls Tryz.prog 104 #[.slice A n cap, .func (.func F) #[] caps] w fun e w' => e = .returned (.int .i64 (idxGo p 0 h)) ∧ Below w.heap.size w w' := by
  have hl := hr.hlen
  have HL := Lib.hid hl
  have HF := Lib.hid hf
  clear hl hf
  go_enter Tryz.func104, Tryz.ntmps104
  go_wp2
  go_loopw [8] (fun i wr => ∃ k : Nat, k ≤ n ∧ i = .int .i64 k ∧ Hid (idxGo p 0 h = idxGo p k (h.drop k)) ∧ Below w.heap.size w wr) (fun i _ => n - (intOf i).toNat)
  case atStart => exact ⟨0, Nat.zero_le _, rfl, rfl, Below.refl _ _⟩
  case round =>
    obtain ⟨k, hk, rfl, HE, hbw⟩ := hrel
    by_cases hlt : k < n
    · obtain ⟨b, off, o, he, hb, ho, c0, c1, c2⟩ := (hr.below hbw).op (k := k) (by omega)
      cases he
      have HO := Lib.hid (drop_at ho)
      have hmem := Lib.hid (List.mem_of_getElem? ho)
      clear ho
      cases hP : p o
      · have HE2 : Hid (idxGo p 0 h = idxGo p (k + 1) (h.drop (k + 1))) := Lib.hid (by rw [HE.out, HO.out]; simp [idxGo, hP])
        go_wp2_with fail
        refine (HF.out o hmem.out wr hbw).mono ?_
        rintro e w1 ⟨rfl, hb1⟩
        rw [hP]
        go_wp2
        go_roundw
        case rel => exact ⟨k + 1, by omega, by go_num, HE2, hbw.trans (hb1.mono hbw.size)⟩
        case measure => simp [intOf]; omega
      · have HE2 : Hid (idxGo p 0 h = k) := Lib.hid (by rw [HE.out, HO.out]; simp [idxGo, hP])
        go_wp2_with fail
        refine (HF.out o hmem.out wr hbw).mono ?_
        rintro e w1 ⟨rfl, hb1⟩
        rw [hP]
        go_wp2
        go_ret
        exact ⟨ret_int HE2.out.symm, hbw.trans (hb1.mono hbw.size)⟩
    · have HE2 : Hid (idxGo p 0 h = -1) := Lib.hid (by rw [HE.out, drop_end (by rw [HL.out]; omega)]; rfl)
      go_wp2
      go_ret
      exact ⟨ret_int HE2.out.symm, hbw⟩
theorem containsFunc_seen (A : Option Addr) (n cap : Nat) (h : List HOp) (F : FuncId) (caps : Array Value) (p : HOp → Bool) (w : World) (hr : Rd w w.heap.size 3 A n (cellsH h)) (hm : n ≤ 6000000000000)
    (hcall : ∀ (args : Array Value) (w : World), (callFunc F args).run Tryz.prog w = .ok (.enter F args) w)
    (hf : ∀ o ∈ h, ∀ w', Below w.heap.size w w' → Calls Tryz.prog F (#[o.val] ++ caps) w' fun e w'' => e = .returned (.bool (p o)) ∧ Below w'.heap.size w' w'') :
    Calls Tryz.prog 71 #[.slice A n cap, .func (.func F) #[] caps] w fun e w' => e = .returned (.bool (h.any p)) ∧ Below w.heap.size w w' := by
  have C := indexFunc_seen A n cap h F caps p w hr hm hcall hf
  have HA := Lib.hid (idxGo_any p h)
  generalize idxGo p 0 h = v at *
  have HC := hide C
  clear C hf hcall
  go_enter Tryz.func71, Tryz.ntmps71
  go_wp2_with fail
  refine (unhide HC).mono ?_
  rintro e w1 ⟨rfl, hb1⟩
  go_wp2
  go_ret
  exact ⟨ret_bool HA.out, hb1⟩
theorem call_read (args : Array Value) (w : World) : (callFunc 41 args).run Tryz.prog w = .ok (.enter 41 args) w := by kernel_rfl
theorem call_read1 (args : Array Value) (w : World) : (callFunc 72 args).run Tryz.prog w = .ok (.enter 72 args) w := by kernel_rfl
theorem call_validSee (args : Array Value) (w : World) : (callFunc 38 args).run Tryz.prog w = .ok (.enter 38 args) w := by kernel_rfl
theorem call_validMay (args : Array Value) (w : World) : (callFunc 39 args).run Tryz.prog w = .ok (.enter 39 args) w := by kernel_rfl
set_option maxHeartbeats 1000000 in
theorem read1_any (gi gb gd : Nat) (item tx c1 c2 : Int) (c3 c4 c5 : Value) (q : HOp) (w : World) (h1 : Blk w gi 3 [.int .i64 item]) (h2 : Blk w gb 84 [.pointer (some ⟨gd, 0, none⟩)]) (hd : Blk w gd 88 [.int .i64 tx, .int .i64 c1, .int .i64 c2, c3, c4, c5]) :
    Calls Tryz.prog 72 #[q.val, .pointer (some ⟨gi, 0, none⟩), .pointer (some ⟨gb, 0, none⟩)] w fun e w' => e = .returned (.bool (decide (q.what = item) && !decide (q.item = tx))) ∧ Below w.heap.size w w' := by
  obtain ⟨a, b, c⟩ := q
  have e1 := (h1.alloc (.cells #[.int .i64 a, .int .i64 b, .int .i64 c] 50)).cellS (i := 0) (v := .int .i64 item) rfl
  have e2 := (h2.alloc (.cells #[.int .i64 a, .int .i64 b, .int .i64 c] 50)).cellS (i := 0) (v := .pointer (some ⟨gd, 0, none⟩)) rfl
  have e3 := (hd.alloc (.cells #[.int .i64 a, .int .i64 b, .int .i64 c] 50)).cellS (i := 0) (v := .int .i64 tx) rfl
  have hN := Blk.new w 50 [.int .i64 a, .int .i64 b, .int .i64 c]
  have n1 := hN.cellS (i := 1) (v := .int .i64 b) rfl
  have n2 := hN.cellS (i := 2) (v := .int .i64 c) rfl
  have hb0 : Below w.heap.size w (w.alloc (.cells #[.int .i64 a, .int .i64 b, .int .i64 c] 50)) := (Below.refl _ _).alloc (Nat.le_refl _) _
  clear h1 h2 hd hN
  show Calls _ _ _ _ fun e w' => e = .returned (.bool (decide (b = item) && !decide (c = tx))) ∧ _
  by_cases hb : b = item
  · have tb : (b == item) = true := by simpa using hb
    by_cases hc : c = tx
    · have tc : (c == tx) = true := by simpa using hc
      have hv : (decide (b = item) && !decide (c = tx)) = false := by rw [decide_eq_true hb, decide_eq_true hc]; rfl
      rw [hv]
      have HC := Lib.hid hc
      clear hb hc hv
      unfold HOp.val
      go_enter Tryz.func72, Tryz.ntmps72
      go_wp2
      go_quiet (fail)
      go_wp2
      go_ret
      exact ⟨by simp [HC.out], below_drewN hb0 _⟩
    · have tc : (c == tx) = false := by simpa using hc
      have hv : (decide (b = item) && !decide (c = tx)) = true := by rw [decide_eq_true hb, decide_eq_false hc]; rfl
      rw [hv]
      have HC := Lib.hid hc
      clear hb hc hv
      unfold HOp.val
      go_enter Tryz.func72, Tryz.ntmps72
      go_wp2
      go_quiet (fail)
      go_wp2
      go_ret
      exact ⟨by simp [HC.out], below_drewN hb0 _⟩
  · have tb : (b == item) = false := by simpa using hb
    have hv : (decide (b = item) && !decide (c = tx)) = false := by rw [decide_eq_false hb]; rfl
    rw [hv]
    clear hb hv
    unfold HOp.val
    go_enter Tryz.func72, Tryz.ntmps72
    go_wp2
    go_quiet (fail)
    go_wp2
    go_ret
    exact ⟨by simp, below_drewN hb0 _⟩
set_option maxHeartbeats 1000000 in
theorem read_any {tk tl : TypeId} {lo : Nat} {s : VSt} {L : VLay} {tag : Nat → Int × Nat} {k0 : Nat} (w : World) (H : VHeap (vT tk tl) lo w s L tag) (hk : VOk k0 s) (hk0 : k0 ≤ 1000) {d : Dl} (hd : d ∈ s.ds) (item : Int) :
    Calls Tryz.prog 41 #[.pointer (some ⟨L.g d.tx, 0, none⟩), .int .i64 item] w fun e w' => e = .returned (.bool (readD d item)) ∧ Below w.heap.size w w' := by
  have hD := H.deals d hd
  obtain ⟨As, cs, hvs⟩ := own_slice hD.seen
  have hB := hD.blk
  have hs := hD.seen
  rw [hvs] at hB hs
  have hsl := (hk.deals d hd).seen
  have hb1 : Below w.heap.size w ((w.alloc (.cells #[.pointer (some ⟨L.g d.tx, 0, none⟩)] 84)).alloc (.cells #[.int .i64 item] 3)) := ((Below.refl _ _).alloc (Nat.le_refl _) _).alloc (by simp) _
  have g0 := (Blk.new w 84 [.pointer (some ⟨L.g d.tx, 0, none⟩)]).alloc (.cells #[.int .i64 item] 3)
  have g1 : Blk ((w.alloc (.cells #[.pointer (some ⟨L.g d.tx, 0, none⟩)] 84)).alloc (.cells #[.int .i64 item] 3)) (w.heap.size + 1) 3 [.int .i64 item] := by
    have := Blk.new (w.alloc (.cells #[.pointer (some ⟨L.g d.tx, 0, none⟩)] 84)) 3 [.int .i64 item]
    simpa using this
  have hB1 := (hB.alloc (.cells #[.pointer (some ⟨L.g d.tx, 0, none⟩)] 84)).alloc (.cells #[.int .i64 item] 3)
  have hs1 := own_alloc (own_alloc hs (.cells #[.pointer (some ⟨L.g d.tx, 0, none⟩)] 84)) (.cells #[.int .i64 item] 3)
  have e0 := g0.cellS (i := 0) (v := .pointer (some ⟨L.g d.tx, 0, none⟩)) rfl
  have e3 := hB1.cellS (i := 3) (v := .slice As d.seen.length cs) rfl
  generalize hW : (w.alloc (.cells #[.pointer (some ⟨L.g d.tx, 0, none⟩)] 84)).alloc (.cells #[.int .i64 item] 3) = W at hb1 g0 g1 hB1 hs1 e0 e3
  have C := hide (containsFunc_seen As d.seen.length cs d.seen 72 #[.pointer (some ⟨w.heap.size + 1, 0, none⟩), .pointer (some ⟨w.heap.size, 0, none⟩)] (fun q => decide (q.what = item) && !decide (q.item = d.tx)) W (rd_own hs1) (by omega) call_read1 (fun q _ w' hb => read1_any (w.heap.size + 1) w.heap.size (L.g d.tx) item d.tx d.began d.ended (.slice As d.seen.length cs) (L.vw d.tx) (L.vp d.tx) q w' (g1.below hb g1.lt) (g0.below hb g0.lt) (hB1.below hb hB1.lt)))
  have HR : Hid (readD d item = d.seen.any fun q => decide (q.what = item) && !decide (q.item = d.tx)) := Lib.hid rfl
  rw [← HR.out] at C
  generalize readD d item = R at *
  generalize L.g d.tx = g at *
  clear HR hD hs hs1 hB hB1 g0 g1 H hk hvs hd
  subst hW
  go_enter Tryz.func41, Tryz.ntmps41
  go_wp2_with fail
  refine (unhide C).mono ?_
  rintro e w2 ⟨rfl, hb2⟩
  go_wp2
  go_ret
  exact ⟨rfl, hb1.trans (hb2.mono hb1.size)⟩
set_option maxHeartbeats 1000000 in
theorem validSee_any {tk tl : TypeId} {lo : Nat} {s : VSt} {L : VLay} {tag : Nat → Int × Nat} {k0 : Nat} (w : World) (H : VHeap (vT tk tl) lo w s L tag) (hk : VOk k0 s) {d : Dl} {i : Int} (hi : 1 ≤ i) (hi2 : i ≤ 6) :
    Calls Tryz.prog 38 #[.pointer (some ⟨L.g d.tx, 0, none⟩), .int .i64 i, .slice (some ⟨L.gl, 0, none⟩) 6 6, L.vd] w fun e w' => e = .returned (.int .i64 (validR.see s d i)) ∧ Below w.heap.size w w' := by
  have hB := H.last
  have hl := hk.last
  obtain ⟨j, hj⟩ : ∃ j : Nat, i.toNat - 1 = j := ⟨_, rfl⟩
  have hj6 : j < 6 := by omega
  obtain ⟨x, hx⟩ : ∃ x, s.last[j]? = some x := ⟨_, List.getElem?_eq_getElem (by omega)⟩
  have c0 := hB.cellS (i := j) (v := .int .i64 x) (by unfold cellsI; rw [List.getElem?_map, hx]; rfl)
  have i1 : IntKind.i64.wrap (i - 1) = (j : Int) := by
    rw [show i - 1 = (j : Int) by omega]; exact IntWalk.i64_in _ (by omega)
  have i2 : (0 : Int) ≤ (j : Int) := by omega
  have i3 : (j : Int) < 6 := by omega
  have i4 : (j : Int) < ((6 : Nat) : Int) := by omega
  have HX : Hid (validR.see s d i = x) := Lib.hid (by
    show s.last.getD (i.toNat - 1) 0 = x
    rw [hj, List.getD_eq_getElem?_getD, hx]; rfl)
  generalize validR.see s d i = R at *
  generalize L.vd = vd at *
  generalize L.g d.tx = g at *
  generalize L.gl = gl at *
  clear hB hl H hk hx hj hj6
  go_enter Tryz.func38, Tryz.ntmps38
  go_wp2
  go_ret
  exact ⟨ret_int HX.out.symm, Below.refl _ _⟩
set_option maxHeartbeats 1000000 in
theorem validMay_any {tk tl : TypeId} {lo : Nat} {s : VSt} {L : VLay} {tag : Nat → Int × Nat} {k0 : Nat} (w : World) (H : VHeap (vT tk tl) lo w s L tag) (hk : VOk k0 s) (hk0 : k0 ≤ 1000) {d : Dl} (hd : d ∈ s.ds) :
    Calls Tryz.prog 39 #[.pointer (some ⟨L.g d.tx, 0, none⟩), L.vd] w fun e w' => e = .returned (.bool (validR.may s d)) ∧ Below w.heap.size w w' := by
  obtain ⟨Ad, cd, hvd⟩ := own_slice H.done
  have hB := (H.deals d hd).blk
  have e1 := hB.cellS (i := 1) (v := .int .i64 d.began) rfl
  have C := hide (since_any w H hk hk0 d.began 41 #[.pointer (some ⟨L.g d.tx, 0, none⟩)] #[] (readD d) call_read (fun i w' hb => by
    have := read_any w' (H.below hb) hk hk0 hd i
    simpa using this))
  have HR : Hid (validR.may s d = !sinceD d.began (doneD s) (readD d)) := Lib.hid rfl
  rw [hvd] at C ⊢
  generalize validR.may s d = R at *
  generalize sinceD d.began (doneD s) (readD d) = q at *
  generalize d.began = bg at *
  generalize L.g d.tx = g at *
  clear hB H hk hvd hd
  go_enter Tryz.func39, Tryz.ntmps39
  go_wp2_with fail
  refine (unhide C).mono ?_
  rintro e w2 ⟨rfl, hb2⟩
  go_wp2
  go_ret
  exact ⟨ret_bool HR.out.symm, hb2⟩
set_option maxRecDepth 100000 in
set_option maxHeartbeats 4000000 in
theorem valid_run (A : Option Addr) (n c : Nat) (h : List HOp) (w : World) (hr : Rd w w.heap.size 3 A n (cellsH h)) (hm : n ≤ 6000000000000) (hok : okH h) :
    Calls Tryz.prog 15 #[.slice A n c] w fun e w' => OutC w w' e (playV validR h).dn (seenOf (playV validR h)) (playV validR h).last := by
  have CR := hide (fun w1 (hb : Below w.heap.size w w1) => right_h A n c h w1 ((hr.below hb).more hb.size) hm)
  rw [show (checkF h).2 = 0 from hok] at CR
  have hlen := okH_len hok
  have hn : n ≤ 40 := by rw [← hr.hlen]; exact hlen
  have CP := hide (fun w1 (hb : Below w.heap.size w w1) => vplay_any (tk := 3) (tl := 3) A n c h validR (fun s d i => Nat.le_succ _) 38 39 #[] #[] #[] #[] w1 w1 none (.inl ⟨rfl, rfl⟩) (Below.refl _ _) ((hr.below hb).more hb.size) hn (okH_right hok) call_validSee call_validMay
    (fun s L tag w2 d i H hk hd h1 h2 _ => ((fun w2 H hk hd h1 h2 => validSee_any w2 H hk h1 h2) w2 H hk hd h1 h2).mono fun e w' ⟨he, hb⟩ => ⟨he, L, tag, Looked.none H hb⟩)
    (fun s L tag w2 d H hk hd _ => (validMay_any w2 H hk (by omega) hd).mono fun e w' ⟨he, hb⟩ => ⟨he, hb⟩))
  have HZ := hide (fun w1 (hb : Below (w.heap.size + 1) (w.alloc (.cells #[.slice none 0 0, .slice none 0 0, .slice none 0 0] 40)) w1) => (Blk.new w 40 [.slice none 0 0, .slice none 0 0, .slice none 0 0]).below hb (Nat.lt_succ_self _))
  have hb0 : Below w.heap.size w (w.alloc (.cells #[.slice none 0 0, .slice none 0 0, .slice none 0 0] 40)) := (Below.refl _ _).alloc (Nat.le_refl _) _
  have HB0 := hide hb0
  have hz0 : (w.alloc (.cells #[.slice none 0 0, .slice none 0 0, .slice none 0 0] 40)).heap.size = w.heap.size + 1 := by simp
  have HP : Hid (playV validR h = playV validR h) := Lib.hid rfl
  generalize playV validR h = s at *
  clear hr hok hb0 hlen
  go_enter Tryz.func15, Tryz.ntmps15
  go_wp2_with fail
  refine (unhide CR _ (unhide HB0)).mono ?_
  rintro e w1 ⟨rfl, hb1⟩
  have hbw1 := (unhide HB0).trans (hb1.mono (unhide HB0).size)
  have hz1 := hb1.size
  have hbz1 : Below (w.heap.size + 1) (w.alloc (.cells #[.slice none 0 0, .slice none 0 0, .slice none 0 0] 40)) w1 := hb1.mono (by omega)
  rw [errV_zero]
  go_wp2_with fail
  refine (unhide CP w1 hbw1).mono ?_
  rintro e w2 ⟨L, tag, rfl, hP2, hk2⟩
  have hb2 := hP2.below
  have hz2 := hb2.size
  have hlB := hP2.heap.last
  rw [hP2.gl] at hlB
  have hl6 := hk2.last
  have CO := hide (out_any w2 hP2.heap hk2 (by omega) (some ⟨w1.heap.size + 1, 0, none⟩) 6 6)
  have hbw2 := hbw1.trans (hb2.mono hbw1.size)
  have hbz2 := hbz1.trans (hb2.mono (by omega))
  clear hP2 hk2
  go_wp2_with fail
  refine (unhide CO).mono ?_
  rintro e w3 ⟨v1, v2, rfl, ho1, ho2, _, hb3⟩
  have hz3 := hb3.size
  have hbw3 := hbw2.trans (hb3.mono hbw2.size)
  have hB4 := unhide HZ w3 (hbz2.trans (hb3.mono (by omega)))
  have hl3 := hlB.below hb3 hlB.lt
  obtain ⟨A1, c1, rfl⟩ := own_slice ho1
  obtain ⟨A2, c2, rfl⟩ := own_slice ho2
  have x0 := hB4.cellS (i := 0) (v := .slice none 0 0) rfl
  have x1 := hB4.cellS (i := 1) (v := .slice none 0 0) rfl
  have x2 := hB4.cellS (i := 2) (v := .slice none 0 0) rfl
  have f0 := hB4.frozen 0
  have f1 := hB4.frozen 1
  have f2 := hB4.frozen 2
  have hR := ((hB4.put 0 (.slice A1 s.dn.length c1)).put 1 (.slice A2 (seenOf s).length c2)).put 2 (.slice (some ⟨w1.heap.size + 1, 0, none⟩) 6 6)
  have r0 := hR.cellS (i := 0) (v := .slice A1 s.dn.length c1) rfl
  have r1 := hR.cellS (i := 1) (v := .slice A2 (seenOf s).length c2) rfl
  have r2 := hR.cellS (i := 2) (v := .slice (some ⟨w1.heap.size + 1, 0, none⟩) 6 6) rfl
  have hbx := ((hbw3.setCell (p := ⟨w.heap.size, 0, none⟩) (Nat.le_refl _) (.slice A1 s.dn.length c1)).setCell (p := ⟨w.heap.size, 1, none⟩) (Nat.le_refl _) (.slice A2 (seenOf s).length c2)).setCell (p := ⟨w.heap.size, 2, none⟩) (Nat.le_refl _) (.slice (some ⟨w1.heap.size + 1, 0, none⟩) 6 6)
  have o1 := own_far (own_far (own_far ho1 (p := ⟨w.heap.size, 0, none⟩) (by simp; omega) (.slice A1 s.dn.length c1)) (p := ⟨w.heap.size, 1, none⟩) (by simp; omega) (.slice A2 (seenOf s).length c2)) (p := ⟨w.heap.size, 2, none⟩) (by simp; omega) (.slice (some ⟨w1.heap.size + 1, 0, none⟩) 6 6)
  have o2 := own_far (own_far (own_far ho2 (p := ⟨w.heap.size, 0, none⟩) (by simp; omega) (.slice A1 s.dn.length c1)) (p := ⟨w.heap.size, 1, none⟩) (by simp; omega) (.slice A2 (seenOf s).length c2)) (p := ⟨w.heap.size, 2, none⟩) (by simp; omega) (.slice (some ⟨w1.heap.size + 1, 0, none⟩) 6 6)
  have o3 := ((hl3.far (p := ⟨w.heap.size, 0, none⟩) (by simp; omega) (.slice A1 s.dn.length c1)).far (p := ⟨w.heap.size, 1, none⟩) (by simp; omega) (.slice A2 (seenOf s).length c2)).far (p := ⟨w.heap.size, 2, none⟩) (by simp; omega) (.slice (some ⟨w1.heap.size + 1, 0, none⟩) 6 6)
  have o4 := rd_own (own_blk o3 (base := 0) (size := 1) (n := 6) (Nat.zero_le _) (by decide) (by unfold cellsI; rw [List.length_map, hl6]))
  have HO := hide (And.intro (rd_own o1) (And.intro (rd_own o2) o4))
  have hcap := own_capV ho1
  clear o1 o2 o3 o4 ho1 ho2 hR hB4 hlB hl3
  go_wp2
  refine bodyPost_ret (v := .tuple #[.agg #[.slice A1 s.dn.length c1, .slice A2 (seenOf s).length c2, .slice (some ⟨w1.heap.size + 1, 0, none⟩) 6 6], .nilIface]) (by simp [results, Tryz.results15, go_sem, r0, r1, r2]) rfl ?_
  exact ⟨A1, c1, A2, c2, w1.heap.size + 1, _, _, rfl, (unhide HO).1, (unhide HO).2.1, (unhide HO).2.2, hbx, hcap⟩
set_option maxRecDepth 100000 in
set_option maxHeartbeats 4000000 in
theorem valid_no (A : Option Addr) (n c : Nat) (h : List HOp) (w : World) (hr : Rd w w.heap.size 3 A n (cellsH h)) (hm : n ≤ 6000000000000) (hno : ¬ okH h) :
    Calls Tryz.prog 15 #[.slice A n c] w fun e w' => e = .returned (.tuple #[.agg #[.slice none 0 0, .slice none 0 0, .slice none 0 0], errV (checkF h).2]) ∧ Below w.heap.size w w' := by
  have CR := hide (fun w1 (hb : Below w.heap.size w w1) => right_h A n c h w1 ((hr.below hb).more hb.size) hm)
  rw [ne_errV (show (checkF h).2 ≠ 0 from hno)] at CR ⊢
  generalize (checkF h).2 = ev at *
  have HZ := hide (fun w1 (hb : Below (w.heap.size + 1) (w.alloc (.cells #[.slice none 0 0, .slice none 0 0, .slice none 0 0] 40)) w1) => (Blk.new w 40 [.slice none 0 0, .slice none 0 0, .slice none 0 0]).below hb (Nat.lt_succ_self _))
  have hb0 : Below w.heap.size w (w.alloc (.cells #[.slice none 0 0, .slice none 0 0, .slice none 0 0] 40)) := (Below.refl _ _).alloc (Nat.le_refl _) _
  have HB0 := hide hb0
  have hz0 : (w.alloc (.cells #[.slice none 0 0, .slice none 0 0, .slice none 0 0] 40)).heap.size = w.heap.size + 1 := by simp
  clear hr hno hb0
  go_enter Tryz.func15, Tryz.ntmps15
  go_wp2_with fail
  refine (unhide CR _ (unhide HB0)).mono ?_
  rintro e w1 ⟨rfl, hb1⟩
  have hbw1 := (unhide HB0).trans (hb1.mono (unhide HB0).size)
  have hB4 := unhide HZ w1 (hb1.mono (by omega))
  have x0 := hB4.cellS (i := 0) (v := .slice none 0 0) rfl
  have x1 := hB4.cellS (i := 1) (v := .slice none 0 0) rfl
  have x2 := hB4.cellS (i := 2) (v := .slice none 0 0) rfl
  have f0 := hB4.frozen 0
  have f1 := hB4.frozen 1
  have f2 := hB4.frozen 2
  have hR := ((hB4.put 0 (.slice none 0 0)).put 1 (.slice none 0 0)).put 2 (.slice none 0 0)
  have r0 := hR.cellS (i := 0) (v := .slice none 0 0) rfl
  have r1 := hR.cellS (i := 1) (v := .slice none 0 0) rfl
  have r2 := hR.cellS (i := 2) (v := .slice none 0 0) rfl
  have hbx := ((hbw1.setCell (p := ⟨w.heap.size, 0, none⟩) (Nat.le_refl _) (.slice none 0 0)).setCell (p := ⟨w.heap.size, 1, none⟩) (Nat.le_refl _) (.slice none 0 0)).setCell (p := ⟨w.heap.size, 2, none⟩) (Nat.le_refl _) (.slice none 0 0)
  clear hR hB4 HZ HB0 CR
  go_wp2
  refine bodyPost_ret (v := .tuple #[.agg #[.slice none 0 0, .slice none 0 0, .slice none 0 0], .iface 57 (.int .i64 ev)]) (by simp [results, Tryz.results15, go_sem, r0, r1, r2]) rfl ?_
  exact ⟨rfl, hbx⟩
end Go.Proofs.YtmehghkpghbpjaaGreat


namespace Go.Proofs.YtmehghkpghbpjaaGreat
open Go.RowKit

set_option maxHeartbeats 400000 in
theorem hdeals_any (A : Option Addr) (n cap : Nat) (h : List HOp) (w : World) (hr : Rd w w.heap.size 3 A n (cellsH h)) (hok : okH h) :
    Calls Tryz.prog 14 #[.slice A n cap] w fun e w' => ∃ v m, e = .returned (.tuple #[v, .nilIface]) ∧ w'.ownsRow w.heap.size 3 1 v m (cellsI (dealsL h)) ∧ Below w.heap.size w w' := by
  have hn : n ≤ 40 := by rw [← hr.hlen]; exact okH_len hok
  have C := right_h A n cap h w hr (by omega)
  have HP := hide (fun w1 (hb : Below w.heap.size w w1) => dealsOf_any A n cap h w1 ((hr.below hb).more hb.size) (by omega))
  rw [show (checkF h).2 = 0 from hok, errV_zero] at C
  have HC := hide C
  clear C hok hr
  go_enter Tryz.func14, Tryz.ntmps14
  go_wp2_with fail
  refine (unhide HC).mono ?_
  rintro e w1 ⟨rfl, hb1⟩
  have HP1 := hide (unhide HP w1 hb1)
  clear HP HC
  go_wp2_with fail
  refine (unhide HP1).mono ?_
  rintro e w2 ⟨v2, m2, rfl, ho2, _, hb2⟩
  obtain ⟨A2, c2, rfl⟩ := own_slice ho2
  have HQ := hide (And.intro (own_mono ho2 hb1.size) (hb1.trans (hb2.mono hb1.size)))
  clear ho2 hb1 hb2 HP1
  go_wp2
  go_ret2
  exact ⟨_, m2, rfl, (unhide HQ).1, (unhide HQ).2⟩
end Go.Proofs.YtmehghkpghbpjaaGreat


namespace Go.Proofs.YtmehghkpghbpjaaGreat
open Go.RowKit

def oneT : List HOp := [⟨2, 2, 1⟩, ⟨2, 3, 0⟩, ⟨1, 1, 1⟩, ⟨1, 3, 0⟩]
theorem oneT_ok : okH oneT := by show (checkF _).2 = 0; decide
theorem oneT_order : orderOf oneT = some [2, 1] := by
  unfold orderOf
  rw [topF_up (dealsL_up _)]
  decide
set_option maxRecDepth 100000 in
set_option maxHeartbeats 1000000 in
theorem one_any (w : World) : Calls Tryz.prog 5 #[] w fun e w' => e = .returned (.bool true) ∧ Below w.heap.size w w' := by
  have hr0 := rd_new w 54 (size := 3) (n := 4) (cellsH oneT) rfl
  have hb0 : Below w.heap.size w (w.alloc (.cells (cellsH oneT).toArray 54)) := (Below.refl _ _).alloc (Nat.le_refl _) _
  have C1 := hide (sorder_any (some ⟨w.heap.size, 0, none⟩) 4 4 oneT _ (hr0.more (by simp)) (by omega))
  rw [(ord_some oneT_ok oneT_order).1, (ord_some oneT_ok oneT_order).2, errV_zero] at C1
  have HB0 := hide hb0
  clear hb0 hr0
  go_enter Tryz.func5, Tryz.ntmps5
  go_wp2_with fail
  refine (unhide C1).mono ?_
  rintro e w1 ⟨v1, k1, rfl, ho1, hb1⟩
  obtain ⟨A1, c1, rfl⟩ := own_slice ho1
  obtain rfl : k1 = 2 := by rw [← own_ilen ho1]; rfl
  have hbw1 := (unhide HB0).trans (hb1.mono (unhide HB0).size)
  have hd1 := rd_own ho1
  obtain ⟨b, off, x, he, _, hx, q0⟩ := hd1.int (k := 0) (by omega)
  cases he
  cases hx
  rw [Nat.add_zero] at q0
  clear C1 hb1 ho1 hd1 HB0
  go_wp2
  go_ret
  exact ⟨rfl, hbw1⟩
end Go.Proofs.YtmehghkpghbpjaaGreat


namespace Go.Proofs.YtmehghkpghbpjaaGreat
open Go.RowKit

theorem doneL_len2 (h : List HOp) : (doneL h).length ≤ h.length := by
  have := List.length_filter_le (fun o : HOp => (flagsF h).getD o.tx.toNat false) h
  unfold doneL; omega

/-! ### view.Reads. -/
def rdsL (h : List HOp) : List (Int × Int) := if (checkF h).2 = 0 then (lookF (doneL h)).1 else []
set_option maxRecDepth 100000 in
set_option maxHeartbeats 1000000 in
theorem vreads_any (A : Option Addr) (n cap : Nat) (h : List HOp) (w : World) (hr : Rd w w.heap.size 3 A n (cellsH h)) (hm : n ≤ 6000000000000) :
    Calls Tryz.prog 19 #[.slice A n cap] w fun e w' => ∃ v m, e = .returned (.tuple #[v, errV (checkF h).2]) ∧ w'.ownsRow w.heap.size 52 2 v m (dcells (rdsL h)) ∧ Below w.heap.size w w' := by
  have C0 := hide (right_h A n cap h w hr hm)
  by_cases hok : okH h
  · have hn : n ≤ 40 := by rw [← hr.hlen]; exact okH_len hok
    have CD := hide (fun w1 (hb : Below w.heap.size w w1) => doneOf_any A n cap h w1 ((hr.below hb).more hb.size) (by omega) (okH_tx hok))
    have HR : Hid (rdsL h = (lookF (doneL h)).1) := Lib.hid (by unfold rdsL; rw [if_pos (show (checkF h).2 = 0 from hok)])
    have HD : Hid ((doneL h).length ≤ 40 ∧ ∀ o ∈ doneL h, rightB o = true) := Lib.hid ⟨Nat.le_trans (doneL_len2 h) (okH_len hok), fun o ho => okH_right hok o (List.mem_filter.1 ho).1⟩
    rw [show (checkF h).2 = 0 from hok, errV_zero] at C0 ⊢
    clear hr hok
    generalize rdsL h = R at *
    go_enter Tryz.func19, Tryz.ntmps19
    go_wp2_with fail
    refine (unhide C0).mono ?_
    rintro e w1 ⟨rfl, hb1⟩
    have C1 := hide (unhide CD w1 hb1)
    clear C0 CD
    go_wp2_with fail
    refine (unhide C1).mono ?_
    rintro e w2 ⟨A2, m2, c2, rfl, ho2, hb2⟩
    have hd2 := rd_own ho2
    have hm2 : m2 ≤ 40 := by rw [← hd2.hlen]; exact HD.out.1
    have C2 := hide (look_any A2 m2 c2 (doneL h) w2 hd2 (by omega) HD.out.2)
    have hbw2 := hb1.trans (hb2.mono hb1.size)
    clear C1 ho2 hd2 hb2
    go_wp2_with fail
    refine (unhide C2).mono ?_
    rintro e w3 ⟨v3, v4, m3, rfl, ho3, ho4, hb3⟩
    obtain ⟨A3, c3, rfl⟩ := own_slice ho3
    obtain ⟨A4, c4, rfl⟩ := own_slice ho4
    have ho5 := own_mono ho3 hbw2.size
    have hbw3 := hbw2.trans (hb3.mono hbw2.size)
    clear ho3 ho4 hb3 C2
    go_wp2
    go_ret2
    exact ⟨_, m3, rfl, by rw [HR.out]; exact ho5, hbw3⟩
  · have HR : Hid (rdsL h = []) := Lib.hid (by unfold rdsL; rw [if_neg (show ¬ (checkF h).2 = 0 from hok)])
    rw [HR.out]
    rw [ne_errV (show (checkF h).2 ≠ 0 from hok)] at C0 ⊢
    generalize (checkF h).2 = ev at *
    clear HR hok hr
    go_enter Tryz.func19, Tryz.ntmps19
    go_wp2_with fail
    refine (unhide C0).mono ?_
    rintro e w1 ⟨rfl, hb1⟩
    go_wp2
    go_ret2
    exact ⟨_, 0, rfl, World.ownsRow_nil _ _ _ _, hb1⟩
end Go.Proofs.YtmehghkpghbpjaaGreat
