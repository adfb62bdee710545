
/-
  THE HEAP OF THE REFERENCE'S RUN (laneref2.Run): the array of deals that run, the array of those that began, the row of those that are done, the looks; marks on blocks as in ValidH.
-/
import Derived.Test.YtfmdeahblaikoaaDoorValidPst
import Derived.Test.YtfmdeahblaikoaaDoorRDeal
import Derived.Deep.MidRow

namespace Go.Proofs.YtfmdeahblaikoaaDoor
open Go.RowKit

/-- The five cells of a deal; of none. -/
def dC (vs vw : Int → Value) (ds : List Dl) (t : Int) : List Value := match dget ds t with
  | some d => [.int .i64 d.tx, .int .i64 d.began, .int .i64 d.ended, vs t, vw t]
  | none => [.int .i64 0, .int .i64 0, .int .i64 0, .slice none 0 0, .slice none 0 0]
def sevenI : List Int := [0, 1, 2, 3, 4, 5, 6]
def opC (vs vw : Int → Value) (ds : List Dl) : List Value := sevenI.flatMap (dC vs vw ds)
def begC (ds : List Dl) : List Value := sevenI.map fun t => .bool (dget ds t).isSome
theorem dC_some {vs vw : Int → Value} {ds : List Dl} {t : Int} {d : Dl} (h : dget ds t = some d) : dC vs vw ds t = [.int .i64 d.tx, .int .i64 d.began, .int .i64 d.ended, vs t, vw t] := by unfold dC; rw [h]
theorem dC_five (vs vw : Int → Value) (ds : List Dl) (t : Int) : ∃ a b c d e, dC vs vw ds t = [a, b, c, d, e] := by
  unfold dC
  cases dget ds t <;> exact ⟨_, _, _, _, _, rfl⟩
theorem seven_at {t : Int} (h0 : 0 ≤ t) (h6 : t ≤ 6) : sevenI[t.toNat]? = some t := by
  have : t = 0 ∨ t = 1 ∨ t = 2 ∨ t = 3 ∨ t = 4 ∨ t = 5 ∨ t = 6 := by omega
  rcases this with rfl | rfl | rfl | rfl | rfl | rfl | rfl <;> rfl
theorem flat5_at {f : Int → List Value} (hf : ∀ t, ∃ a b c d e, f t = [a, b, c, d, e]) : ∀ {l : List Int} {k : Nat} {x : Int}, l[k]? = some x → ∀ {i : Nat}, i < 5 → (l.flatMap f)[k * 5 + i]? = (f x)[i]?
  | [], _, _, h, _, _ => by simp at h
  | y :: t, k, x, h, i, hi => by
    obtain ⟨a, b, c, d, e, he⟩ := hf y
    rw [List.flatMap_cons, he]
    cases k with
    | zero =>
      obtain rfl : y = x := by simpa using h
      rw [he, Nat.zero_mul, Nat.zero_add, List.getElem?_append_left (by simpa using hi)]
    | succ k =>
      rw [List.getElem?_append_right (by simp; omega)]
      have := flat5_at hf (l := t) (k := k) (x := x) (by simpa using h) hi
      rw [← this]
      congr 1
      simp; omega
theorem flat5_set {f f' : Int → List Value} (hf : ∀ t, ∃ a b c d e, f t = [a, b, c, d, e]) {x : Int} {a b c d e : Value} (hx : f' x = [a, b, c, d, e]) (hy : ∀ y, y ≠ x → f' y = f y) : ∀ {l : List Int} {k : Nat}, l.Nodup → l[k]? = some x →
    (((((l.flatMap f).set (k * 5) a).set (k * 5 + 1) b).set (k * 5 + 2) c).set (k * 5 + 3) d).set (k * 5 + 4) e = l.flatMap f'
  | [], _, _, h => by simp at h
  | y :: t, k, hn, h => by
    obtain ⟨p, q, r, s, u, he⟩ := hf y
    rw [List.nodup_cons] at hn
    rw [List.flatMap_cons, List.flatMap_cons, he]
    cases k with
    | zero =>
      obtain rfl : y = x := by simpa using h
      rw [hx]
      have : t.flatMap f' = t.flatMap f := by
        have key : ∀ l : List Int, y ∉ l → l.flatMap f' = l.flatMap f := by
          intro l
          induction l with
          | nil => intro _; rfl
          | cons z l ih =>
            intro hz
            simp only [List.mem_cons, not_or] at hz
            rw [List.flatMap_cons, List.flatMap_cons, hy z (fun e => hz.1 e.symm), ih hz.2]
        exact key t hn.1
      rw [this]; rfl
    | succ k =>
      have hk : t[k]? = some x := by simpa using h
      have hyx : y ≠ x := fun e => hn.1 (by rw [e]; exact List.mem_of_getElem? hk)
      have ih := flat5_set hf hx hy hn.2 hk
      rw [← ih, hy y hyx, he]
      have e0 : (k + 1) * 5 = k * 5 + 5 := by omega
      rw [e0]
      rfl
theorem opC_at {vs vw : Int → Value} {ds : List Dl} {t : Int} (h0 : 0 ≤ t) (h6 : t ≤ 6) {i : Nat} (hi : i < 5) : (opC vs vw ds)[t.toNat * 5 + i]? = (dC vs vw ds t)[i]? := flat5_at (dC_five vs vw ds) (seven_at h0 h6) hi
theorem opC_set {vs vw vs' vw' : Int → Value} {ds ds' : List Dl} {t : Int} (h0 : 0 ≤ t) (h6 : t ≤ 6) {a b c d e : Value} (hx : dC vs' vw' ds' t = [a, b, c, d, e]) (hy : ∀ y, y ≠ t → dC vs' vw' ds' y = dC vs vw ds y) :
    ((((((opC vs vw ds).set (t.toNat * 5) a).set (t.toNat * 5 + 1) b).set (t.toNat * 5 + 2) c).set (t.toNat * 5 + 3) d).set (t.toNat * 5 + 4) e) = opC vs' vw' ds' :=
  flat5_set (dC_five vs vw ds) hx hy (by decide) (seven_at h0 h6)
theorem begC_at {ds : List Dl} {t : Int} (h0 : 0 ≤ t) (h6 : t ≤ 6) : (begC ds)[t.toNat]? = some (.bool (dget ds t).isSome) := by
  unfold begC
  rw [List.getElem?_map, seven_at h0 h6]; rfl
theorem begC_set {ds : List Dl} {d : Dl} (h0 : 0 ≤ d.tx) (h6 : d.tx ≤ 6) : (begC ds).set d.tx.toNat (.bool true) = begC (dput ds d) := by
  apply List.ext_getElem?
  intro i
  have hlen : (begC ds).length = 7 := by simp [begC, sevenI]
  by_cases hi : d.tx.toNat = i
  · subst hi
    rw [begC_at h0 h6, List.getElem?_set_self (by rw [hlen]; omega), dget_put, if_pos rfl]; rfl
  · rw [List.getElem?_set_ne hi]
    rcases Nat.lt_or_ge i 7 with h | h
    · have e : i = (i : Int).toNat := by simp
      rw [e, begC_at (by omega) (by omega), begC_at (by omega) (by omega), dget_put, if_neg (by omega)]
    · rw [List.getElem?_eq_none (by rw [hlen]; omega), List.getElem?_eq_none (by simp [begC, sevenI]; omega)]

/-- Where the reference's things lie. -/
structure RLay where
  gO : Nat
  gB : Nat
  vd : Value
  vl : Value
  vs : Int → Value
  vw : Int → Value
structure RunH (lo : Nat) (w : World) (s : VSt) (L : RLay) (tag : Nat → Int × Nat) : Prop where
  opn : Blk w L.gO 144 (opC L.vs L.vw s.ds)
  opnM : tag L.gO = (0, 0)
  opnL : lo ≤ L.gO
  beg : Blk w L.gB 112 (begC s.ds)
  begM : tag L.gB = (0, 1)
  begL : lo ≤ L.gB
  done : w.ownsRow lo 143 5 L.vd s.dn.length (s.dn.flatMap (dC L.vs L.vw s.ds))
  doneM : ∀ k, L.vd.ownBlock = some k → tag k = (0, 2)
  looks : w.ownsRow lo 133 3 L.vl s.looks.length (cellsH s.looks)
  looksM : ∀ k, L.vl.ownBlock = some k → tag k = (0, 4)
  seen : ∀ d ∈ s.ds, w.ownsRow lo 133 3 (L.vs d.tx) d.seen.length (cellsH d.seen) ∧ ∀ k, (L.vs d.tx).ownBlock = some k → tag k = (d.tx, 6)
  wrote : ∀ d ∈ s.ds, w.ownsRow lo 3 1 (L.vw d.tx) d.wrote.length (cellsI d.wrote) ∧ ∀ k, (L.vw d.tx).ownBlock = some k → tag k = (d.tx, 7)
  nodup : (s.ds.map (·.tx)).Nodup
  sub : ∀ t ∈ s.dn, t ∈ s.ds.map (·.tx)
section
variable {lo : Nat} {w w' w'' w2 w3 w4 : World} {s s' : VSt} {L L' : RLay} {tag tag' : Nat → Int × Nat} {S : Int × Nat → Prop} {d d' : Dl}
theorem dC_put {vs vw vs' vw' : Int → Value} {ds : List Dl} {d' : Dl} (hv : ∀ t, t ≠ d'.tx → vs' t = vs t ∧ vw' t = vw t) {y : Int} (hy : y ≠ d'.tx) : dC vs' vw' (dput ds d') y = dC vs vw ds y := by
  unfold dC
  rw [dget_put, if_neg (fun e => hy e.symm), (hv y hy).1, (hv y hy).2]
theorem RunH.next (H : RunH lo w s L tag) (hgO : L'.gO = L.gO) (hgB : L'.gB = L.gB) (hds : s'.ds = dput s.ds d') (hdn : ∀ t ∈ s'.dn, t ∈ s.dn ∨ t = d'.tx) (hv : ∀ t, t ≠ d'.tx → L'.vs t = L.vs t ∧ L'.vw t = L.vw t) (ht : ∀ j, j < w.heap.size → tag' j = tag j)
    (hb : But w.heap.size tag S w w') (hS : ∀ (t : Int) (j : Nat), t ≠ d'.tx → 6 ≤ j → ¬ S (t, j)) (hopn : Blk w' L.gO 144 (opC L'.vs L'.vw s'.ds)) (hbeg : Blk w' L.gB 112 (begC s'.ds))
    (hdone : w'.ownsRow lo 143 5 L'.vd s'.dn.length (s'.dn.flatMap (dC L'.vs L'.vw s'.ds))) (hdoneM : ∀ k, L'.vd.ownBlock = some k → tag' k = (0, 2))
    (hlooks : w'.ownsRow lo 133 3 L'.vl s'.looks.length (cellsH s'.looks)) (hlooksM : ∀ k, L'.vl.ownBlock = some k → tag' k = (0, 4))
    (hseen : w'.ownsRow lo 133 3 (L'.vs d'.tx) d'.seen.length (cellsH d'.seen) ∧ ∀ k, (L'.vs d'.tx).ownBlock = some k → tag' k = (d'.tx, 6))
    (hwrote : w'.ownsRow lo 3 1 (L'.vw d'.tx) d'.wrote.length (cellsI d'.wrote) ∧ ∀ k, (L'.vw d'.tx).ownBlock = some k → tag' k = (d'.tx, 7)) : RunH lo w' s' L' tag' := by
  have hmem : ∀ e ∈ s'.ds, e = d' ∨ (e ∈ s.ds ∧ e.tx ≠ d'.tx) := fun e he => by
    rw [hds] at he
    exact mem_dputN H.nodup he
  refine ⟨by rw [hgO]; exact hopn, by rw [hgO, ht _ H.opn.lt]; exact H.opnM, by rw [hgO]; exact H.opnL, by rw [hgB]; exact hbeg, by rw [hgB, ht _ H.beg.lt]; exact H.begM, by rw [hgB]; exact H.begL, hdone, hdoneM, hlooks, hlooksM, fun e he => ?_, fun e he => ?_, by rw [hds]; exact dput_nodup H.nodup _, fun t h => ?_⟩
  · rcases hmem e he with rfl | ⟨he, hne⟩
    · exact hseen
    · obtain ⟨h1, h2⟩ := H.seen e he
      rw [(hv e.tx hne).1]
      exact ⟨own_butM h1 hb fun k hk => by rw [h2 k hk]; exact hS _ _ hne (by omega), fun k hk => by rw [ht _ (h1.lt k hk).2]; exact h2 k hk⟩
  · rcases hmem e he with rfl | ⟨he, hne⟩
    · exact hwrote
    · obtain ⟨h1, h2⟩ := H.wrote e he
      rw [(hv e.tx hne).2]
      exact ⟨own_butM h1 hb fun k hk => by rw [h2 k hk]; exact hS _ _ hne (by omega), fun k hk => by rw [ht _ (h1.lt k hk).2]; exact h2 k hk⟩
  · rw [hds, dput_txs]
    rcases hdn t h with h | rfl
    · have := H.sub t h
      split
      · exact this
      · exact List.mem_append_left _ this
    · split
      · rename_i h2; exact h2
      · exact List.mem_append_right _ (List.mem_singleton.2 rfl)
theorem RunH.below (H : RunH lo w s L tag) (hb : Below w.heap.size w w') : RunH lo w' s L tag := by
  have hb' : But w.heap.size tag (fun _ => False) w w' := But.below hb (Nat.le_refl _)
  exact ⟨H.opn.but hb' id, H.opnM, H.opnL, H.beg.but hb' id, H.begM, H.begL, own_butM H.done hb' fun _ _ => id, H.doneM, own_butM H.looks hb' fun _ _ => id, H.looksM,
    fun d hd => ⟨own_butM (H.seen d hd).1 hb' fun _ _ => id, (H.seen d hd).2⟩, fun d hd => ⟨own_butM (H.wrote d hd).1 hb' fun _ _ => id, (H.wrote d hd).2⟩, H.nodup, H.sub⟩
/-- Five cells of a block, one behind the other. -/
def set5 (w : World) (g k : Nat) (a b c d e : Value) : World := ((((w.setCell ⟨g, k, none⟩ a).setCell ⟨g, k + 1, none⟩ b).setCell ⟨g, k + 2, none⟩ c).setCell ⟨g, k + 3, none⟩ d).setCell ⟨g, k + 4, none⟩ e
theorem Blk.put5 {g : Nat} {t : TypeId} {cs : List Value} (h : Blk w g t cs) (k : Nat) (a b c d e : Value) : Blk (set5 w g k a b c d e) g t (((((cs.set k a).set (k + 1) b).set (k + 2) c).set (k + 3) d).set (k + 4) e) := ((((h.put k a).put (k + 1) b).put (k + 2) c).put (k + 3) d).put (k + 4) e
theorem set5_size (w : World) (g k : Nat) (a b c d e : Value) : (set5 w g k a b c d e).heap.size = w.heap.size := by unfold set5; simp
theorem But.set5 {N g k : Nat} {a b c d e : Value} (hp : g < N → S (tag g)) : But N tag S w (Go.Proofs.YtfmdeahblaikoaaDoor.set5 w g k a b c d e) :=
  ((((But.set (p := ⟨g, k, none⟩) hp a).trans (But.set (p := ⟨g, k + 1, none⟩) hp b)).trans (But.set (p := ⟨g, k + 2, none⟩) hp c)).trans (But.set (p := ⟨g, k + 3, none⟩) hp d)).trans (But.set (p := ⟨g, k + 4, none⟩) hp e)
theorem flatC_put {vs vw vs' vw' : Int → Value} {ds : List Dl} (hv : ∀ t, t ≠ d'.tx → vs' t = vs t ∧ vw' t = vw t) : ∀ {l : List Int}, d'.tx ∉ l → l.flatMap (dC vs' vw' (dput ds d')) = l.flatMap (dC vs vw ds)
  | [], _ => rfl
  | y :: t, h => by
    simp only [List.mem_cons, not_or] at h
    rw [List.flatMap_cons, List.flatMap_cons, dC_put hv (fun e => h.1 e.symm), flatC_put hv h.2]
/-- A deal begins. -/
theorem RunH.open (H : RunH lo w s L tag) {k : Nat} {tx : Int} (h1 : 1 ≤ tx) (h6 : tx ≤ 6) (hnew : dget s.ds tx = none) :
    RunH lo (set5 (w.setCell ⟨L.gB, tx.toNat, none⟩ (.bool true)) L.gO (tx.toNat * 5) (.int .i64 tx) (.int .i64 k) (.int .i64 (-1)) (.slice none 0 0) (.slice none 0 0)) (openS s k tx) { L with vs := updL L.vs tx (.slice none 0 0), vw := updL L.vw tx (.slice none 0 0) } tag := by
  obtain ⟨hbd, hnm⟩ := openS_new (k := k) hnew
  have htx : (begD s k tx).tx = tx := begD_tx s k tx
  have hv : ∀ t, t ≠ (begD s k tx).tx → updL L.vs tx (.slice none 0 0) t = L.vs t ∧ updL L.vw tx (.slice none 0 0) t = L.vw t := fun t ht => by
    rw [htx] at ht
    exact ⟨updL_ne _ _ ht, updL_ne _ _ ht⟩
  have hdn : (begD s k tx).tx ∉ s.dn := fun h => hnm (by rw [← htx]; exact H.sub _ h)
  have hne : L.gB ≠ L.gO := fun e => by have := H.begM; rw [e, H.opnM] at this; cases this
  have hbut : But w.heap.size tag (fun m => m = (0, 0) ∨ m = (0, 1)) w (set5 (w.setCell ⟨L.gB, tx.toNat, none⟩ (.bool true)) L.gO (tx.toNat * 5) (.int .i64 tx) (.int .i64 k) (.int .i64 (-1)) (.slice none 0 0) (.slice none 0 0)) :=
    (But.set (fun _ => .inr H.begM) _).trans (But.set5 (fun _ => .inl H.opnM))
  have hdC : dC (updL L.vs tx (.slice none 0 0)) (updL L.vw tx (.slice none 0 0)) (dput s.ds (begD s k tx)) tx = [.int .i64 tx, .int .i64 k, .int .i64 (-1), .slice none 0 0, .slice none 0 0] := by
    rw [dC_some (d := begD s k tx) (by rw [dget_put, if_pos htx]), updL_self, updL_self, hbd]
  refine RunH.next H (d' := begD s k tx) rfl rfl rfl (fun t ht => .inl ht) hv (fun _ _ => rfl) hbut (fun t j _ hj hS => by rcases hS with e | e <;> (injection e with _ e2; omega)) ?_ ?_ ?_ H.doneM ?_ H.looksM ⟨?_, ?_⟩ ⟨?_, ?_⟩
  · have := (H.opn.far (p := ⟨L.gB, tx.toNat, none⟩) (fun e => hne e.symm) (.bool true)).put5 (tx.toNat * 5) (.int .i64 tx) (.int .i64 k) (.int .i64 (-1)) (.slice none 0 0) (.slice none 0 0)
    rw [opC_set (by omega) h6 hdC (fun y hy => dC_put hv (by rw [htx]; exact hy))] at this
    exact this
  · have hx := H.beg.put tx.toNat (.bool true)
    have e := begC_set (ds := s.ds) (d := begD s k tx) (by rw [htx]; omega) (by rw [htx]; exact h6)
    rw [htx] at e
    rw [e] at hx
    exact ((((hx.far (p := ⟨L.gO, tx.toNat * 5, none⟩) hne _).far (p := ⟨L.gO, tx.toNat * 5 + 1, none⟩) hne _).far (p := ⟨L.gO, tx.toNat * 5 + 2, none⟩) hne _).far (p := ⟨L.gO, tx.toNat * 5 + 3, none⟩) hne _).far (p := ⟨L.gO, tx.toNat * 5 + 4, none⟩) hne _
  · show World.ownsRow _ _ _ _ _ s.dn.length (s.dn.flatMap (dC _ _ (dput s.ds (begD s k tx))))
    rw [flatC_put hv hdn]
    exact own_butM H.done hbut fun k hk => by rw [H.doneM k hk]; decide
  · exact own_butM H.looks hbut fun k hk => by rw [H.looksM k hk]; decide
  · show World.ownsRow _ _ _ _ (updL L.vs tx (.slice none 0 0) (begD s k tx).tx) _ _
    rw [htx, updL_self, hbd]; exact World.ownsRow_nil _ _ _ _
  · show ∀ j, (updL L.vs tx (.slice none 0 0) (begD s k tx).tx).ownBlock = some j → _
    rw [htx, updL_self]; intro j hj; cases hj
  · show World.ownsRow _ _ _ _ (updL L.vw tx (.slice none 0 0) (begD s k tx).tx) _ _
    rw [htx, updL_self, hbd]; exact World.ownsRow_nil _ _ _ _
  · show ∀ j, (updL L.vw tx (.slice none 0 0) (begD s k tx).tx).ownBlock = some j → _
    rw [htx, updL_self]; intro j hj; cases hj
/-- What a deal of a run saw and wrote, in a world that differs from the run's by new blocks alone. -/
theorem RunH.deal (H : RunH lo w s L tag) {tx : Int} (hd : dget s.ds tx = some d) : w.ownsRow lo 133 3 (L.vs tx) d.seen.length (cellsH d.seen) ∧ w.ownsRow lo 3 1 (L.vw tx) d.wrote.length (cellsI d.wrote) := by
  obtain ⟨h1, h2⟩ := dget_tx hd
  rw [← h1]
  exact ⟨(H.seen d h2).1, (H.wrote d h2).1⟩
set_option maxHeartbeats 2000000 in
/-- A deal saw: its row grew, its five cells are written anew. -/
theorem RunH.sawD (H : RunH lo w s L tag) {tx : Int} (h1 : 1 ≤ tx) (h6 : tx ≤ 6) (hd : dget s.ds tx = some d) (hnd : tx ∉ s.dn) (q : HOp) (hb : Below w.heap.size w w3) {v : Value} (ho : w4.ownsRow lo 133 3 v (d.seen.length + 1) (cellsH (d.seen ++ [q]))) (hg : w3.grownBy w4 (L.vs tx).ownBlock) (hv2 : v.ownBlock = (L.vs tx).ownBlock ∨ v.ownBlock = some w3.heap.size) {gd : Nat} (hgd : w.heap.size ≤ gd ∨ tag gd = (-1, 0)) (hgd3 : gd < w3.heap.size) (hb5 : But w4.heap.size (fun j => ((j : Int), 0)) (fun m => m.1 = (gd : Int)) w4 w') :
    ∃ L' tag', RunH lo (set5 w' L.gO (tx.toNat * 5) (.int .i64 d.tx) (.int .i64 d.began) (.int .i64 d.ended) v (L.vw tx)) { s with ds := dput s.ds { d with seen := d.seen ++ [q] } } L' tag' ∧ L'.gO = L.gO ∧ L'.gB = L.gB ∧ L'.vd = L.vd ∧ L'.vl = L.vl := by
  obtain ⟨htx, hdm⟩ := dget_tx hd
  obtain ⟨hse, hwr⟩ := H.deal hd
  have hseM := (H.seen d hdm).2
  have hwrM := (H.wrote d hdm).2
  rw [htx] at hseM hwrM
  have hz3 := hb.size
  have hz4 := hg.size
  let tag' : Nat → Int × Nat := fun j => if j < w.heap.size then tag j else (tx, 6)
  let L' : RLay := { L with vs := updL L.vs tx v }
  have ht : ∀ j, j < w.heap.size → tag' j = tag j := fun j hj => if_pos hj
  have hold : But w.heap.size tag (fun m => m = (tx, 6) ∨ m = (-1, 0)) w w' := (((But.below hb (Nat.le_refl _)).trans (But.grown hg hz3 fun j hj _ => hseM j hj)).mono fun m h => .inl h).trans ⟨hb5.os, hb5.tape, hb5.output, hb5.size, fun k hk hn => hb5.block k (by omega) (fun h => by
    have e : k = gd := by have h' : (k : Int) = (gd : Int) := h; omega
    rcases hgd with h2 | h2
    · omega
    · exact hn (.inr (by rw [e]; exact h2)))⟩
  have hbut : But w.heap.size tag (fun m => (m = (tx, 6) ∨ m = (-1, 0)) ∨ m = (0, 0)) w (set5 w' L.gO (tx.toNat * 5) (.int .i64 d.tx) (.int .i64 d.began) (.int .i64 d.ended) v (L.vw tx)) := (hold.mono fun m h => .inl h).trans (But.set5 fun _ => .inr H.opnM)
  have hv : ∀ t, t ≠ ({ d with seen := d.seen ++ [q] } : Dl).tx → updL L.vs tx v t = L.vs t ∧ L.vw t = L.vw t := fun t h => ⟨updL_ne _ _ (fun e => h (by rw [e]; exact htx.symm)), rfl⟩
  have hvM : ∀ j, v.ownBlock = some j → tag' j = (tx, 6) := fun j hj => by
    rcases hv2 with h | h
    · rw [h] at hj
      rw [ht j (hse.lt j hj).2]; exact hseM j hj
    · rw [h] at hj
      injection hj with e
      exact if_neg (by omega)
  have hdC : dC (updL L.vs tx v) L.vw (dput s.ds { d with seen := d.seen ++ [q] }) tx = [.int .i64 d.tx, .int .i64 d.began, .int .i64 d.ended, v, L.vw tx] := by
    rw [dC_some (d := { d with seen := d.seen ++ [q] }) (by rw [dget_put, if_pos htx]), updL_self]
  refine ⟨L', tag', RunH.next (L' := L') (tag' := tag') H (d' := { d with seen := d.seen ++ [q] }) rfl rfl rfl (fun t ht => .inl ht) hv ht hbut (fun t j hne hj hS => by
    rcases hS with (e | e) | e
    · injection e with e1 _; exact hne (e1.trans htx.symm)
    · injection e with _ e2; omega
    · injection e with _ e2; omega) ?_ ?_ ?_ (fun k hk => by rw [ht _ (H.done.lt k hk).2]; exact H.doneM k hk) ?_ (fun k hk => by rw [ht _ (H.looks.lt k hk).2]; exact H.looksM k hk) ⟨?_, ?_⟩ ⟨?_, ?_⟩, rfl, rfl, rfl, rfl⟩
  · have := (H.opn.but hold (by rw [H.opnM]; rintro (e | e) <;> injection e with e1 e2 <;> omega)).put5 (tx.toNat * 5) (.int .i64 d.tx) (.int .i64 d.began) (.int .i64 d.ended) v (L.vw tx)
    rw [opC_set (by omega) h6 hdC (fun y hy => dC_put hv (fun e => hy (e.trans htx)))] at this
    exact this
  · have hx := H.beg.but hbut (by rw [H.begM]; rintro ((e | e) | e) <;> injection e with e1 e2 <;> omega)
    have e : begC (dput s.ds { d with seen := d.seen ++ [q] }) = begC s.ds := by
      unfold begC
      refine List.map_congr_left fun t _ => ?_
      rw [dget_put]
      split
      · rename_i e; rw [show tx = t from htx.symm.trans e] at hd; rw [hd]; rfl
      · rfl
    show Blk _ _ _ (begC (dput s.ds { d with seen := d.seen ++ [q] }))
    rw [e]; exact hx
  · show World.ownsRow _ _ _ _ _ s.dn.length (s.dn.flatMap (dC _ _ (dput s.ds { d with seen := d.seen ++ [q] })))
    rw [flatC_put hv (by show d.tx ∉ s.dn; rw [htx]; exact hnd)]
    exact own_butM H.done hbut fun k hk => by rw [H.doneM k hk]; rintro ((e | e) | e) <;> injection e with e1 e2 <;> omega
  · exact own_butM H.looks hbut fun k hk => by rw [H.looksM k hk]; rintro ((e | e) | e) <;> injection e with e1 e2 <;> omega
  · show World.ownsRow _ _ _ _ (updL L.vs tx v d.tx) (d.seen ++ [q]).length _
    rw [htx, updL_self, List.length_append]
    have h5 : w'.ownsRow lo 133 3 v (d.seen.length + 1) (cellsH (d.seen ++ [q])) := own_butM ho hb5 fun j hj h => by
      have h' : (j : Int) = (gd : Int) := h
      rcases hv2 with e | e
      · rw [e] at hj
        have h1 := (hse.lt j hj).2
        rcases hgd with h2 | h2
        · omega
        · have h3 := hseM j hj
          rw [show j = gd by omega, h2] at h3
          injection h3 with h3 _
          omega
      · rw [e] at hj
        injection hj with e
        omega
    refine own_butM (tag := fun j => ((j : Int), 0)) (S := fun m => m.1 = (L.gO : Int)) h5 (But.set5 fun _ => rfl) fun j hj e => ?_
    have := hvM j hj
    have e : j = L.gO := by have e' : (j : Int) = (L.gO : Int) := e; omega
    rw [e, ht _ H.opn.lt, H.opnM] at this
    injection this with _ e2; omega
  · show ∀ j, (updL L.vs tx v d.tx).ownBlock = some j → _
    rw [htx, updL_self]; exact hvM
  · show World.ownsRow _ _ _ _ (L.vw d.tx) d.wrote.length _
    rw [show L.vw d.tx = L.vw tx by rw [htx]]
    refine own_butM hwr hbut fun j hj => ?_
    rw [hwrM j hj]
    rintro ((e | e) | e) <;> injection e with e1 e2 <;> omega
  · show ∀ j, (L.vw d.tx).ownBlock = some j → _
    rw [htx]; intro j hj; rw [ht _ (hwr.lt j hj).2]; exact hwrM j hj
set_option maxHeartbeats 2000000 in
/-- A deal wrote. -/
theorem RunH.wroteD (H : RunH lo w s L tag) {tx : Int} (h1 : 1 ≤ tx) (h6 : tx ≤ 6) (hd : dget s.ds tx = some d) (hnd : tx ∉ s.dn) (q : Int) (hb : Below w.heap.size w w3) {v : Value} (ho : w4.ownsRow lo 3 1 v (d.wrote.length + 1) (cellsI (d.wrote ++ [q]))) (hg : w3.grownBy w4 (L.vw tx).ownBlock) (hv2 : v.ownBlock = (L.vw tx).ownBlock ∨ v.ownBlock = some w3.heap.size) (hb5 : But w4.heap.size (fun j => ((j : Int), 0)) (fun m => (w.heap.size : Int) ≤ m.1 ∧ m.1 < w3.heap.size) w4 w') :
    ∃ L' tag', RunH lo (set5 w' L.gO (tx.toNat * 5) (.int .i64 d.tx) (.int .i64 d.began) (.int .i64 d.ended) (L.vs tx) v) { s with ds := dput s.ds { d with wrote := d.wrote ++ [q] } } L' tag' ∧ L'.gO = L.gO ∧ L'.gB = L.gB ∧ L'.vd = L.vd ∧ L'.vl = L.vl := by
  obtain ⟨htx, hdm⟩ := dget_tx hd
  obtain ⟨hse, hwr⟩ := H.deal hd
  have hseM := (H.seen d hdm).2
  have hwrM := (H.wrote d hdm).2
  rw [htx] at hseM hwrM
  have hz3 := hb.size
  have hz4 := hg.size
  let tag' : Nat → Int × Nat := fun j => if j < w.heap.size then tag j else (tx, 7)
  let L' : RLay := { L with vw := updL L.vw tx v }
  have ht : ∀ j, j < w.heap.size → tag' j = tag j := fun j hj => if_pos hj
  have hold : But w.heap.size tag (fun m => m = (tx, 7)) w w' := ((But.below hb (Nat.le_refl _)).trans (But.grown hg hz3 fun j hj _ => hwrM j hj)).trans ⟨hb5.os, hb5.tape, hb5.output, hb5.size, fun k hk _ => hb5.block k (by omega) (fun h => by have := h.1; simp at this; omega)⟩
  have hbut : But w.heap.size tag (fun m => m = (tx, 7) ∨ m = (0, 0)) w (set5 w' L.gO (tx.toNat * 5) (.int .i64 d.tx) (.int .i64 d.began) (.int .i64 d.ended) (L.vs tx) v) := (hold.mono fun m h => .inl h).trans (But.set5 fun _ => .inr H.opnM)
  have hv : ∀ t, t ≠ ({ d with wrote := d.wrote ++ [q] } : Dl).tx → L.vs t = L.vs t ∧ updL L.vw tx v t = L.vw t := fun t h => ⟨rfl, updL_ne _ _ (fun e => h (by rw [e]; exact htx.symm))⟩
  have hvM : ∀ j, v.ownBlock = some j → tag' j = (tx, 7) := fun j hj => by
    rcases hv2 with h | h
    · rw [h] at hj
      rw [ht j (hwr.lt j hj).2]; exact hwrM j hj
    · rw [h] at hj
      injection hj with e
      exact if_neg (by omega)
  have hdC : dC L.vs (updL L.vw tx v) (dput s.ds { d with wrote := d.wrote ++ [q] }) tx = [.int .i64 d.tx, .int .i64 d.began, .int .i64 d.ended, L.vs tx, v] := by
    rw [dC_some (d := { d with wrote := d.wrote ++ [q] }) (by rw [dget_put, if_pos htx]), updL_self]
  refine ⟨L', tag', RunH.next (L' := L') (tag' := tag') H (d' := { d with wrote := d.wrote ++ [q] }) rfl rfl rfl (fun t ht => .inl ht) hv ht hbut (fun t j hne hj hS => by
    rcases hS with e | e
    · injection e with e1 _; exact hne (e1.trans htx.symm)
    · injection e with _ e2; omega) ?_ ?_ ?_ (fun k hk => by rw [ht _ (H.done.lt k hk).2]; exact H.doneM k hk) ?_ (fun k hk => by rw [ht _ (H.looks.lt k hk).2]; exact H.looksM k hk) ⟨?_, ?_⟩ ⟨?_, ?_⟩, rfl, rfl, rfl, rfl⟩
  · have := (H.opn.but hold (by rw [H.opnM]; intro e; injection e with _ e; omega)).put5 (tx.toNat * 5) (.int .i64 d.tx) (.int .i64 d.began) (.int .i64 d.ended) (L.vs tx) v
    rw [opC_set (by omega) h6 hdC (fun y hy => dC_put hv (fun e => hy (e.trans htx)))] at this
    exact this
  · have hx := H.beg.but hbut (by rw [H.begM]; rintro (e | e) <;> (injection e with _ e; omega))
    have e : begC (dput s.ds { d with wrote := d.wrote ++ [q] }) = begC s.ds := by
      unfold begC
      refine List.map_congr_left fun t _ => ?_
      rw [dget_put]
      split
      · rename_i e; rw [show tx = t from htx.symm.trans e] at hd; rw [hd]; rfl
      · rfl
    show Blk _ _ _ (begC (dput s.ds { d with wrote := d.wrote ++ [q] }))
    rw [e]; exact hx
  · show World.ownsRow _ _ _ _ _ s.dn.length (s.dn.flatMap (dC _ _ (dput s.ds { d with wrote := d.wrote ++ [q] })))
    rw [flatC_put hv (by show d.tx ∉ s.dn; rw [htx]; exact hnd)]
    exact own_butM H.done hbut fun k hk => by rw [H.doneM k hk]; rintro (e | e) <;> (injection e with _ e; omega)
  · exact own_butM H.looks hbut fun k hk => by rw [H.looksM k hk]; rintro (e | e) <;> (injection e with _ e; omega)
  · show World.ownsRow _ _ _ _ (L.vs d.tx) d.seen.length _
    rw [show L.vs d.tx = L.vs tx by rw [htx]]
    refine own_butM hse hbut fun j hj => ?_
    rw [hseM j hj]
    rintro (e | e) <;> (injection e with _ e; omega)
  · show ∀ j, (L.vs d.tx).ownBlock = some j → _
    rw [htx]; intro j hj; rw [ht _ (hse.lt j hj).2]; exact hseM j hj
  · show World.ownsRow _ _ _ _ (updL L.vw tx v d.tx) (d.wrote ++ [q]).length _
    rw [htx, updL_self, List.length_append]
    have h5 : w'.ownsRow lo 3 1 v (d.wrote.length + 1) (cellsI (d.wrote ++ [q])) := own_butM ho hb5 fun j hj h => by
      rcases hv2 with e | e
      · rw [e] at hj
        have := (hwr.lt j hj).2
        have := h.1; simp at this; omega
      · rw [e] at hj
        injection hj with e
        have := h.2; simp at this; omega
    refine own_butM (tag := fun j => ((j : Int), 0)) (S := fun m => m.1 = (L.gO : Int)) h5 (But.set5 fun _ => rfl) fun j hj e => ?_
    have := hvM j hj
    have e : j = L.gO := by have e' : (j : Int) = (L.gO : Int) := e; omega
    rw [e, ht _ H.opn.lt, H.opnM] at this
    injection this with _ e2; omega
  · show ∀ j, (updL L.vw tx v d.tx).ownBlock = some j → _
    rw [htx, updL_self]; exact hvM
/-- Someone looked. -/
theorem RunH.lookD (H : RunH lo w s L tag) (q : HOp) (gd : Nat) (hgd : gd ≠ w3.heap.size) (hb : Below w.heap.size w w3) {v : Value} (ho : w4.ownsRow lo 133 3 v (s.looks.length + 1) (cellsH (s.looks ++ [q]))) (hg : w3.grownBy w4 L.vl.ownBlock) (hv2 : v.ownBlock = L.vl.ownBlock ∨ v.ownBlock = some w3.heap.size) :
    RunH lo w4 { s with looks := s.looks ++ [q] } { L with vl := v } (fun j => if j < w.heap.size then tag j else if j = gd then (-1, 0) else (0, 4)) := by
  have hz3 := hb.size
  have ht : ∀ j, j < w.heap.size → (fun j => if j < w.heap.size then tag j else if j = gd then ((-1 : Int), 0) else ((0 : Int), 4)) j = tag j := fun j hj => if_pos hj
  have hbut : But w.heap.size tag (fun m => m = (0, 4)) w w4 := (But.below hb (Nat.le_refl _)).trans (But.grown hg hz3 fun j hj _ => H.looksM j hj)
  refine ⟨H.opn.but hbut (by rw [H.opnM]; decide), by rw [← H.opnM]; exact ht _ H.opn.lt, H.opnL, H.beg.but hbut (by rw [H.begM]; decide), by rw [← H.begM]; exact ht _ H.beg.lt, H.begL, own_butM H.done hbut fun k hk => by rw [H.doneM k hk]; decide, fun k hk => by rw [← H.doneM k hk]; exact ht _ (H.done.lt k hk).2, ?_, fun k hk => ?_, fun d hd => ?_, fun d hd => ?_, H.nodup, H.sub⟩
  · show World.ownsRow _ _ _ _ _ (s.looks ++ [q]).length _
    rw [List.length_append]; exact ho
  · rcases hv2 with h | h
    · have hk : v.ownBlock = some k := hk
      rw [h] at hk
      exact (ht k (H.looks.lt k hk).2).trans (H.looksM k hk)
    · have hk : v.ownBlock = some k := hk
      rw [h] at hk
      injection hk with e
      show (if k < w.heap.size then tag k else if k = gd then _ else _) = _
      rw [if_neg (by omega), if_neg (by omega)]
  · obtain ⟨a, b⟩ := H.seen d hd
    exact ⟨own_butM a hbut fun k hk => by rw [b k hk]; intro e; injection e with _ e; omega, fun k hk => by rw [← b k hk]; exact ht _ (a.lt k hk).2⟩
  · obtain ⟨a, b⟩ := H.wrote d hd
    exact ⟨own_butM a hbut fun k hk => by rw [b k hk]; intro e; injection e with _ e; omega, fun k hk => by rw [← b k hk]; exact ht _ (a.lt k hk).2⟩
/-- Those that are done read so. -/
theorem RunH.drow (H : RunH lo w s L tag) {A : Option Addr} {n c : Nat} (hv : L.vd = .slice A n c) : n = s.dn.length ∧ DRow w w.heap.size A n (doneD s) := by
  have ho := H.done
  rw [hv] at ho
  have hn : n = s.dn.length := by
    rcases ho.2 with ⟨h1, h2⟩ | ⟨_, _, _, h1, _⟩
    · injection h1 with _ h1 _; omega
    · injection h1 with _ h1 _
  refine ⟨hn, by unfold doneD; rw [List.length_map, hn], fun k hk => ?_⟩
  rw [← hn] at ho
  obtain ⟨b, off, e, hb, hc⟩ := (rd_own ho).2 (by omega)
  have ht : s.dn[k]? = some (s.dn[k]'(by omega)) := List.getElem?_eq_getElem (by omega)
  generalize s.dn[k]'(by omega) = t at ht
  obtain ⟨d, hd, hdt⟩ := List.mem_map.1 (H.sub t (List.mem_of_getElem? ht))
  have hg : dget s.ds t = some d := by rw [← hdt]; exact dget_mem H.nodup hd
  have hse := (H.seen d hd).1
  have hwr := (H.wrote d hd).1
  rw [hdt] at hse hwr
  obtain ⟨As, cs, hvs⟩ := own_slice hse
  obtain ⟨Aw, cw, hvw⟩ := own_slice hwr
  have hx : ∀ i : Nat, i < 5 → ∀ u, (dC L.vs L.vw s.ds t)[i]? = some u → w.cell? ⟨b, off + (k * 5 + i), none⟩ = some u := fun i hi u hu =>
    hc _ _ (by rw [flat5_at (dC_five L.vs L.vw s.ds) ht hi]; exact hu)
  rw [dC_some hg, hvs, hvw] at hx
  rw [hvs] at hse
  rw [hvw] at hwr
  refine ⟨b, off, d, As, _, cs, Aw, _, cw, e, hb, ?_, hx 0 (by omega) _ rfl, hx 1 (by omega) _ rfl, hx 2 (by omega) _ rfl, hx 3 (by omega) _ rfl, hx 4 (by omega) _ rfl, rd_own hse, rd_own hwr⟩
  unfold doneD
  rw [List.getElem?_map, ht, Option.map_some, hg]; rfl
/-- Nothing changed: the five cells are written as they were. -/
theorem RunH.rest (H : RunH lo w s L tag) {tx : Int} (h1 : 1 ≤ tx) (h6 : tx ≤ 6) (hd : dget s.ds tx = some d) (hb : Below w.heap.size w w3) : RunH lo (set5 w3 L.gO (tx.toNat * 5) (.int .i64 d.tx) (.int .i64 d.began) (.int .i64 d.ended) (L.vs tx) (L.vw tx)) s L tag := by
  have H3 := H.below hb
  have hbut : But w3.heap.size tag (fun m => m = (0, 0)) w3 (set5 w3 L.gO (tx.toNat * 5) (.int .i64 d.tx) (.int .i64 d.began) (.int .i64 d.ended) (L.vs tx) (L.vw tx)) := But.set5 fun _ => H.opnM
  refine ⟨?_, H3.opnM, H3.opnL, H3.beg.but hbut (by rw [H.begM]; decide), H3.begM, H3.begL, own_butM H3.done hbut fun k hk => by rw [H.doneM k hk]; decide, H3.doneM, own_butM H3.looks hbut fun k hk => by rw [H.looksM k hk]; decide, H3.looksM,
    fun e he => ⟨own_butM (H3.seen e he).1 hbut fun k hk => by rw [(H.seen e he).2 k hk]; intro e; injection e with _ e; omega, (H.seen e he).2⟩, fun e he => ⟨own_butM (H3.wrote e he).1 hbut fun k hk => by rw [(H.wrote e he).2 k hk]; intro e; injection e with _ e; omega, (H.wrote e he).2⟩, H.nodup, H.sub⟩
  have := H3.opn.put5 (tx.toNat * 5) (.int .i64 d.tx) (.int .i64 d.began) (.int .i64 d.ended) (L.vs tx) (L.vw tx)
  rw [opC_set (by omega) h6 (dC_some hd) (fun y _ => rfl)] at this
  exact this
set_option maxHeartbeats 2000000 in
/-- A deal is done. -/
theorem RunH.doneD (H : RunH lo w s L tag) {tx : Int} (h1 : 1 ≤ tx) (h6 : tx ≤ 6) (hd : dget s.ds tx = some d) (hnd : tx ∉ s.dn) (x : Int) (last : List Int) (hb : Below w.heap.size w w3) {v : Value}
    (ho : w4.ownsRow lo 143 5 v (s.dn.length + 1) (s.dn.flatMap (dC L.vs L.vw s.ds) ++ [.int .i64 d.tx, .int .i64 d.began, .int .i64 x, L.vs tx, L.vw tx])) (hg : w3.grownBy w4 L.vd.ownBlock) (hv2 : v.ownBlock = L.vd.ownBlock ∨ v.ownBlock = some w3.heap.size) :
    ∃ tag', RunH lo (set5 w4 L.gO (tx.toNat * 5) (.int .i64 d.tx) (.int .i64 d.began) (.int .i64 x) (L.vs tx) (L.vw tx)) ⟨dput s.ds { d with ended := x }, s.dn ++ [tx], last, s.looks⟩ { L with vd := v } tag' := by
  obtain ⟨htx, hdm⟩ := dget_tx hd
  obtain ⟨hse, hwr⟩ := H.deal hd
  have hseM := (H.seen d hdm).2
  have hwrM := (H.wrote d hdm).2
  rw [htx] at hseM hwrM
  have hz3 := hb.size
  have hz4 := hg.size
  let tag' : Nat → Int × Nat := fun j => if j < w.heap.size then tag j else (0, 2)
  have ht : ∀ j, j < w.heap.size → tag' j = tag j := fun j hj => if_pos hj
  have hold : But w.heap.size tag (fun m => m = (0, 2)) w w4 := (But.below hb (Nat.le_refl _)).trans (But.grown hg hz3 fun j hj _ => H.doneM j hj)
  have hbut : But w.heap.size tag (fun m => m = (0, 2) ∨ m = (0, 0)) w (set5 w4 L.gO (tx.toNat * 5) (.int .i64 d.tx) (.int .i64 d.began) (.int .i64 x) (L.vs tx) (L.vw tx)) := (hold.mono fun m h => .inl h).trans (But.set5 fun _ => .inr H.opnM)
  have hv : ∀ t, t ≠ ({ d with ended := x } : Dl).tx → L.vs t = L.vs t ∧ L.vw t = L.vw t := fun _ _ => ⟨rfl, rfl⟩
  have hvM : ∀ j, v.ownBlock = some j → tag' j = (0, 2) := fun j hj => by
    rcases hv2 with h | h
    · rw [h] at hj
      rw [ht j (H.done.lt j hj).2]; exact H.doneM j hj
    · rw [h] at hj
      injection hj with e
      exact if_neg (by omega)
  have hdC : dC L.vs L.vw (dput s.ds { d with ended := x }) tx = [.int .i64 d.tx, .int .i64 d.began, .int .i64 x, L.vs tx, L.vw tx] := by
    rw [dC_some (d := { d with ended := x }) (by rw [dget_put, if_pos htx])]
  refine ⟨tag', RunH.next (L' := { L with vd := v }) (tag' := tag') (s' := ⟨dput s.ds { d with ended := x }, s.dn ++ [tx], last, s.looks⟩) H (d' := { d with ended := x }) rfl rfl rfl (fun t ht => by
    rcases List.mem_append.1 ht with ht | ht
    · exact .inl ht
    · exact .inr ((List.mem_singleton.1 ht).trans htx.symm)) hv ht hbut (fun t j hne hj hS => by
    rcases hS with e | e <;> (injection e with _ e2; omega)) ?_ ?_ ?_ hvM ?_ (fun k hk => by rw [ht _ (H.looks.lt k hk).2]; exact H.looksM k hk) ⟨?_, ?_⟩ ⟨?_, ?_⟩⟩
  · have := (H.opn.but hold (by rw [H.opnM]; decide)).put5 (tx.toNat * 5) (.int .i64 d.tx) (.int .i64 d.began) (.int .i64 x) (L.vs tx) (L.vw tx)
    rw [opC_set (by omega) h6 hdC (fun y hy => dC_put hv (fun e => hy (e.trans htx)))] at this
    exact this
  · have hx := H.beg.but hbut (by rw [H.begM]; decide)
    have e : begC (dput s.ds { d with ended := x }) = begC s.ds := by
      unfold begC
      refine List.map_congr_left fun t _ => ?_
      rw [dget_put]
      split
      · rename_i e; rw [show tx = t from htx.symm.trans e] at hd; rw [hd]; rfl
      · rfl
    show Blk _ _ _ (begC (dput s.ds { d with ended := x }))
    rw [e]; exact hx
  · show World.ownsRow _ _ _ _ v (s.dn ++ [tx]).length ((s.dn ++ [tx]).flatMap (dC L.vs L.vw (dput s.ds { d with ended := x })))
    rw [List.length_append, List.flatMap_append, flatC_put hv (by show d.tx ∉ s.dn; rw [htx]; exact hnd)]
    have e1 : [tx].flatMap (dC L.vs L.vw (dput s.ds { d with ended := x })) = [.int .i64 d.tx, .int .i64 d.began, .int .i64 x, L.vs tx, L.vw tx] := by
      rw [List.flatMap_cons, hdC]; rfl
    rw [e1]
    refine own_butM (tag := fun j => ((j : Int), 0)) (S := fun m => m.1 = (L.gO : Int)) ho (But.set5 fun _ => rfl) fun j hj e => ?_
    have := hvM j hj
    have e : j = L.gO := by have e' : (j : Int) = (L.gO : Int) := e; omega
    rw [e, ht _ H.opn.lt, H.opnM] at this
    injection this with _ e2; omega
  · exact own_butM H.looks hbut fun k hk => by rw [H.looksM k hk]; decide
  · show World.ownsRow _ _ _ _ (L.vs d.tx) d.seen.length _
    rw [show L.vs d.tx = L.vs tx by rw [htx]]
    refine own_butM hse hbut fun j hj => ?_
    rw [hseM j hj]
    rintro (e | e) <;> (injection e with _ e; omega)
  · show ∀ j, (L.vs d.tx).ownBlock = some j → _
    rw [htx]; intro j hj; rw [ht _ (hse.lt j hj).2]; exact hseM j hj
  · show World.ownsRow _ _ _ _ (L.vw d.tx) d.wrote.length _
    rw [show L.vw d.tx = L.vw tx by rw [htx]]
    refine own_butM hwr hbut fun j hj => ?_
    rw [hwrM j hj]
    rintro (e | e) <;> (injection e with _ e; omega)
  · show ∀ j, (L.vw d.tx).ownBlock = some j → _
    rw [htx]; intro j hj; rw [ht _ (hwr.lt j hj).2]; exact hwrM j hj
end
theorem deal_info : (Tryd.prog.info? 143).map (·.size) = some 5 := by kernel_rfl
theorem opC_len (vs vw : Int → Value) (ds : List Dl) : (opC vs vw ds).length = 35 := by
  have key : ∀ l : List Int, (l.flatMap (dC vs vw ds)).length = l.length * 5 := by
    intro l
    induction l with
    | nil => rfl
    | cons x t ih =>
      obtain ⟨a, b, c, d, e, h⟩ := dC_five vs vw ds x
      rw [List.flatMap_cons, List.length_append, ih, h]; simp; omega
  exact key sevenI
theorem there_blk {w : World} {g : Nat} {t : TypeId} {cs : List Value} (h : Blk w g t cs) {o n : Nat} (hn : o + n ≤ cs.length) : w.there g o n := fun j hj => ⟨by rw [h.cell (o + j), List.getElem?_eq_getElem (by omega)]; rfl, h.frozen _⟩
theorem set5_cells (w : World) (g k : Nat) (a b c d e : Value) : w.setCells g k [a, b, c, d, e] = set5 w g k a b c d e := rfl
theorem cells5 {w5 : World} {gd gq gO t : Nat} {td ty tA : TypeId} {a b c d e x y z a' b' c' d' e' : Value} {oc : List Value} (hB : Blk w5 gd td [a, b, c, d, e]) (hO : Blk w5 gq ty [x, y, z]) (hA : Blk w5 gO tA oc) (H : ∀ i v, ([a', b', c', d', e'] : List Value)[i]? = some v → oc[t * 5 + i]? = some v) :
    w5.cell? ⟨gd, 0, none⟩ = some a ∧ w5.cell? ⟨gd, 1, none⟩ = some b ∧ w5.cell? ⟨gd, 2, none⟩ = some c ∧ w5.cell? ⟨gd, 3, none⟩ = some d ∧ w5.cell? ⟨gd, 4, none⟩ = some e ∧ (∀ i, w5.frozen? ⟨gd, i, none⟩ = false) ∧ w5.cell? ⟨gq, 0, none⟩ = some x ∧
    w5.cell? ⟨gO, t * 5, none⟩ = some a' ∧ w5.cell? ⟨gO, t * 5 + 1, none⟩ = some b' ∧ w5.cell? ⟨gO, t * 5 + 2, none⟩ = some c' ∧ w5.cell? ⟨gO, t * 5 + 3, none⟩ = some d' ∧ w5.cell? ⟨gO, t * 5 + 4, none⟩ = some e' ∧
    w5.frozen? ⟨gO, t * 5, none⟩ = false ∧ w5.frozen? ⟨gO, t * 5 + 1, none⟩ = false ∧ w5.frozen? ⟨gO, t * 5 + 2, none⟩ = false ∧ w5.frozen? ⟨gO, t * 5 + 3, none⟩ = false ∧ w5.frozen? ⟨gO, t * 5 + 4, none⟩ = false :=
  ⟨hB.cellS rfl, hB.cellS rfl, hB.cellS rfl, hB.cellS rfl, hB.cellS rfl, hB.frozen, hO.cellS rfl, hA.cellS (H 0 _ rfl), hA.cellS (H 1 _ rfl), hA.cellS (H 2 _ rfl), hA.cellS (H 3 _ rfl), hA.cellS (H 4 _ rfl), hA.frozen _, hA.frozen _, hA.frozen _, hA.frozen _, hA.frozen _⟩
theorem slt_rdeal : SlT Tryd.prog 92 143 5 72 := slt_of (z := .agg #[.int .i64 0, .int .i64 0, .int .i64 0, .slice none 0 0, .slice none 0 0]) Tryd.underlying92 (by kernel_rfl) (by kernel_rfl) (by decide) (by decide)
theorem own_set_far {w : World} {g base : Nat} {e : TypeId} {size : Nat} {v : Value} {n : Nat} {xs : List Value} (h : w.ownsRow base e size v n xs) (hn : ∀ k, v.ownBlock = some k → k ≠ g) (i : Nat) (u : Value) : (w.setCell ⟨g, i, none⟩ u).ownsRow base e size v n xs := by
  refine h.kept (row := some g) ⟨rfl, rfl, rfl, by simp [World.setCell], fun k _ hk => Below.heap_setCell w _ u k (fun e => hk (by rw [e]))⟩ ?_
  cases hv : v.ownBlock with
  | none => exact .inl rfl
  | some k => exact .inr (fun e => hn k hv (by injection e))
theorem dbox_grown {w w' : World} {g : Nat} {t : TypeId} {cs : List Value} {v : Value} (h : Blk w g t cs) (hg : w.grownBy w' v.ownBlock) (hn : ∀ k, v.ownBlock = some k → k ≠ g) : Blk w' g t cs := h.grown hg (fun k hk e => hn k hk e.symm)
/-- Ahead of the first op. -/
theorem runH_new (w : World) : RunH w.heap.size ((w.alloc (.cells (opC (fun _ => .slice none 0 0) (fun _ => .slice none 0 0) []).toArray 144)).alloc (.cells (begC []).toArray 112)) vs00 ⟨w.heap.size, w.heap.size + 1, .slice none 0 0, .slice none 0 0, fun _ => .slice none 0 0, fun _ => .slice none 0 0⟩ (fun j => if j = w.heap.size then (0, 0) else (0, 1)) := by
  refine ⟨(Blk.new w _ _).alloc _, if_pos rfl, Nat.le_refl _, ?_, if_neg (by simp), Nat.le_succ _, World.ownsRow_nil _ _ _ _, fun k hk => (by cases hk), World.ownsRow_nil _ _ _ _, fun k hk => (by cases hk), fun d hd => (by cases hd), fun d hd => (by cases hd), List.nodup_nil, fun t ht => (by cases ht)⟩
  have := Blk.new (w.alloc (.cells (opC (fun _ => .slice none 0 0) (fun _ => .slice none 0 0) []).toArray 144)) 112 (begC [])
  simp at this
  exact this
end Go.Proofs.YtfmdeahblaikoaaDoor
