
/-
  CONTRACT of odds.names: each op's name (a map counts the ops of each deal).
  SETS: maps from keys of a kind (read by the kit's KeyLaw) to Bools, that the call itself makes: look-up and store.
  THE ROW's LAST STEP where of the world behind the call 'Below' alone is known (turned from the guide's own last step).
  ARGUMENTS OPENED: a slice of three-number structs, of numbers, as it is read before the call.
-/
import Derived.Test.YtmehghkpghbpjaaGreatQ7
import Derived.Test.YtmehghkpghbpjaaGreatQ1
import Derived.Test.YtmehghkpghbpjaaGreatQ0
import Derived.Maps.OwnOps
import Derived.DeepKeys4
import Derived.ProofKit
import Derived.OpenShut
import Derived.ChangeSame
import Derived.Deep.Slices
import Derived.Deep.Fields
import Derived.SizedLaws

namespace Go.Proofs.YtmehghkpghbpjaaGreat
open Go.RowKit

theorem ownBut {w w' : World} {base : Nat} {e : TypeId} {size : Nat} {v : Value} {n : Nat} {xs : List Value} {g : Nat} (h : w.ownsRow base e size v n xs) (hg : w.grownBy w' (some g)) (hlt : g < base) : w'.ownsRow base e size v n xs := by
  refine h.kept hg ?_
  rcases h.2 with ⟨rfl, _⟩ | ⟨k, cap, cur, rfl, hk, _⟩
  · exact .inl rfl
  · right; simp [Value.ownBlock]; omega
theorem belowGrown {w w' : World} {B g : Nat} (hg : w.grownBy w' (some g)) (hB : B ≤ g) (hs : B ≤ w.heap.size) : Below B w w' :=
  ⟨hg.os, hg.tape, hg.output, hg.size, fun i hi => hg.block i (by omega) (by simp; omega)⟩
theorem getI_putI (k j : Int) (v : Value) : ∀ m : List (Int × Value), getI (putI m k v) j = if j = k then some v else getI m j
  | [] => by
    by_cases h : j = k
    · simp [putI, getI, h]
    · have : ¬ k = j := fun e => h e.symm
      simp [putI, getI, h, this]
  | p :: t => by
    unfold putI
    by_cases hp : p.1 = k
    · rw [if_pos hp]
      unfold getI
      by_cases h : j = k
      · simp [h]
      · have h2 : ¬ k = j := fun e => h e.symm
        have h3 : ¬ p.1 = j := fun e => h (by rw [← e, hp])
        simp [h, h2, h3]
    · rw [if_neg hp]
      unfold getI
      rw [getI_putI k j v t]
      by_cases h : p.1 = j
      · have h3 : ¬ j = k := fun e => hp (by rw [h, e])
        simp [h, h3]
      · simp [h]
/-- A map that counts: what a number has, 0 if it is not there. -/
def Counts (m : List (Int × Value)) (f : Int → Nat) : Prop := ∀ t, (getI m t).getD (.int .i64 0) = .int .i64 (f t)
theorem Counts.nil : Counts [] (fun _ => 0) := fun _ => rfl
theorem Counts.put {m : List (Int × Value)} {f f' : Int → Nat} (h : Counts m f) {k : Int} {c : Nat} (h1 : f' k = c) (h2 : ∀ t, t ≠ k → f' t = f t) : Counts (putI m k (.int .i64 (c : Int))) f' := by
  intro t
  rw [getI_putI]
  by_cases ht : t = k
  · rw [if_pos ht, ht, h1]; rfl
  · rw [if_neg ht, h2 t ht]; exact h t
theorem wpList_countI {P : Program} {w : World} {ops : Array Oper} {rest : List Oper} {o : Oper} {a : Act} {Q : Exit → Act → World → Prop} (hg : o.guard = none) (mo x : Operand) (t : TypeId) (hop : o.op = Op.lookup t mo x false) {kt et : TypeId} (ht : P.underlying t = some (.map kt et)) (hk : P.underlying kt = some (.int .i64)) {b : Nat} {m : List (Int × Value)} {f : Int → Nat}
    (hm : MapI w b m) (hf : Counts m f) {k : Int} {c : Nat} (hc : f k = c) (hz : ∀ w, (zeroValue et).run P w = .ok (.int .i64 0) w) (hmo : a.eval mo = .map (some b)) (hx : a.eval x = .int .i64 k)
    (h : wpList P ops Q rest (a.put o.dst (.int .i64 (c : Int))) w) : wpList P ops Q (o :: rest) a w :=
  wpList_lookupI hg mo x t false hop ht hk hm hz hmo hx (by rw [if_neg (by simp), hf k, hc]; exact h)
end Go.Proofs.YtmehghkpghbpjaaGreat


namespace Go.Proofs.YtmehghkpghbpjaaGreat
open Go.RowKit

structure KSet {κ : Type} (P : Program) (kt : TypeId) (kf : κ → Value) (ok : κ → Prop) : Prop where
  law : WideMaps.KeyLaw P kt
  key : ∀ a, ok a → ∃ l, keyOf P kt (kf a) = some l
  inj : ∀ a b, kf a = kf b → a = b
/-- Block b is a set of keys, in the order in which they came. -/
def SetK {κ : Type} (kf : κ → Value) (ok : κ → Prop) (w : World) (b : Nat) (l : List κ) : Prop :=
  ∃ es clock, w.heap[b]? = some (.map es clock) ∧ es.toList.map (fun e => (e.key, e.val)) = l.map (fun a => (kf a, Value.bool true)) ∧ ∀ a ∈ l, ok a

section
variable {κ : Type} {kf : κ → Value} {ok : κ → Prop} {w w' : World} {b : Nat} {l : List κ}
theorem SetK.new (w : World) : SetK kf ok (w.alloc (.map #[] 0)) w.heap.size [] := ⟨#[], 0, heap_alloc_new w _, rfl, by simp⟩
theorem SetK.lt (h : SetK kf ok w b l) : b < w.heap.size := by
  obtain ⟨es, clock, hb, _⟩ := h
  exact (Array.getElem?_eq_some_iff.1 hb).1
theorem SetK.kept (h : SetK kf ok w b l) (hb : w'.heap[b]? = w.heap[b]?) : SetK kf ok w' b l := by
  obtain ⟨es, clock, h1, h2⟩ := h
  exact ⟨es, clock, hb.trans h1, h2⟩
theorem SetK.alloc (h : SetK kf ok w b l) (o : Obj) : SetK kf ok (w.alloc o) b l := h.kept (Below.heap_alloc w o b h.lt)
theorem SetK.drew (h : SetK kf ok w b l) : SetK kf ok w.drew b l := h
theorem SetK.set (h : SetK kf ok w b l) {p : Addr} (hp : b ≠ p.block) (u : Value) : SetK kf ok (w.setCell p u) b l := h.kept (Below.heap_setCell w p u b hp)
theorem SetK.below {B : Nat} (h : SetK kf ok w b l) (hb : Below B w w') (hB : b < B) : SetK kf ok w' b l := h.kept (hb.block b hB)
theorem SetK.grown {row : Option Nat} (h : SetK kf ok w b l) (hg : w.grownBy w' row) (hr : ∀ k, row = some k → b ≠ k) : SetK kf ok w' b l := h.kept (hg.block b h.lt (fun e => hr b e.symm rfl))
end

section
variable {κ : Type} {kf : κ → Value} {ok : κ → Prop} {P : Program} {w : World} {t kt et : TypeId} {b : Nat} {l : List κ}
theorem find_setK (K : KSet P kt kf ok) {es : List MapEntry} (he : es.map (fun e => (e.key, e.val)) = l.map (fun a => (kf a, Value.bool true))) (hl : ∀ a ∈ l, ok a) (w : World) (a : κ) (ha : ok a) :
    (a ∉ l ∧ (Instr.findKey kt (kf a) es).run P w = .ok none w) ∨ (a ∈ l ∧ ∃ j e, (Instr.findKey kt (kf a) es).run P w = .ok (some (j, .bool true)) w ∧ es[j]? = some e ∧ e.key = kf a ∧ e.val = .bool true) := by
  obtain ⟨k, hk⟩ := K.key a ha
  have hes : ∀ e ∈ es, ∃ x ∈ l, e.key = kf x ∧ e.val = .bool true := by
    intro e hm
    have : (e.key, e.val) ∈ es.map (fun e => (e.key, e.val)) := List.mem_map.2 ⟨e, hm, rfl⟩
    rw [he] at this
    obtain ⟨x, hx, hxe⟩ := List.mem_map.1 this
    simp only [Prod.mk.injEq] at hxe
    exact ⟨x, hx, hxe.1.symm, hxe.2.symm⟩
  have hkeys : ∀ e ∈ es, ∃ q, keyOf P kt e.key = some q := by
    intro e hm
    obtain ⟨x, hx, h1, _⟩ := hes e hm
    rw [h1]; exact K.key x (hl x hx)
  rcases K.law.find w hk es hkeys with ⟨h1, h2⟩ | ⟨j, e, h1, h2, h3⟩
  · left
    refine ⟨fun hm => ?_, h1⟩
    have : (kf a, Value.bool true) ∈ l.map (fun a => (kf a, Value.bool true)) := List.mem_map.2 ⟨a, hm, rfl⟩
    rw [← he] at this
    obtain ⟨e, hem, hee⟩ := List.mem_map.1 this
    simp only [Prod.mk.injEq] at hee
    exact h2 e hem hee.1
  · right
    obtain ⟨x, hx, h4, h5⟩ := hes e (List.mem_of_getElem? h2)
    rw [h3] at h4
    obtain rfl := K.inj _ _ h4
    exact ⟨hx, j, e, by rw [h1, h5], h2, h3, h5⟩
end
section
variable {κ : Type} [DecidableEq κ] {kf : κ → Value} {ok : κ → Prop} {P : Program} {w : World} {t kt et : TypeId} {b : Nat} {l : List κ}
theorem run_hasK (K : KSet P kt kf ok) (ht : P.underlying t = some (.map kt et)) (hm : SetK kf ok w b l) (a : κ) (ha : ok a) (hz : (zeroValue et).run P w = .ok (.bool false) w) :
    (Instr.lookup t (.map (some b)) (kf a) false).run P w = .ok (.bool (decide (a ∈ l))) w := by
  obtain ⟨es, clock, hb, he, hl⟩ := hm
  obtain ⟨k, hk⟩ := K.key a ha
  have hck := K.law.check w es.isEmpty hk
  rcases find_setK K he hl w a ha with ⟨h1, h2⟩ | ⟨h1, j, e, h2, _⟩
  · simp [Instr.lookup, run_underlying ht, getObj, Sem.run, hb, hck, h2, hz, h1]
  · simp [Instr.lookup, run_underlying ht, getObj, Sem.run, hb, hck, h2, h1]
theorem run_putK (K : KSet P kt kf ok) (ht : P.underlying t = some (.map kt et)) (hm : SetK kf ok w b l) (a : κ) (ha : ok a) :
    ∃ w', (Instr.mapUpdate t (.map (some b)) (kf a) (.bool true)).run P w = .ok () w' ∧ SetK kf ok w' b (if a ∈ l then l else l ++ [a]) ∧ w.grownBy w' (some b) := by
  obtain ⟨es, clock, hb, he, hl⟩ := hm
  obtain ⟨k, hk⟩ := K.key a ha
  have hck := K.law.check w false hk
  have hg : ∀ o : Obj, w.grownBy { w with heap := w.heap.setIfInBounds b o } (some b) := fun o => ⟨rfl, rfl, rfl, by simp, fun i _ hi => by
    rw [Array.getElem?_setIfInBounds, if_neg (fun e => hi (by rw [e]))]⟩
  have hs : ∀ o : Obj, ({ w with heap := w.heap.setIfInBounds b o } : World).heap[b]? = some o := fun o => by
    have hlt := (Array.getElem?_eq_some_iff.1 hb).1
    rw [Array.getElem?_setIfInBounds, if_pos rfl, if_pos hlt]
  rcases find_setK K he hl w a ha with ⟨h1, h2⟩ | ⟨h1, j, e, h2, h3, h4, h5⟩
  · refine ⟨{ w with heap := w.heap.setIfInBounds b (.map (es.push { key := kf a, val := .bool true, born := clock }) (clock + 1)) }, ?_, ⟨_, _, hs _, ?_, ?_⟩, hg _⟩
    · simp [Instr.mapUpdate, run_underlying ht, getObj, setObj, Sem.run, hb, hck, h2]
    · rw [if_neg h1, Array.toList_push, List.map_append, he, List.map_append]; rfl
    · rw [if_neg h1]
      intro x hx
      rcases List.mem_append.1 hx with h | h
      · exact hl x h
      · rw [List.mem_singleton.1 h]; exact ha
  · have hj : es[j]? = some e := by simpa using h3
    have hjl := (Array.getElem?_eq_some_iff.1 hj).1
    have hje := (Array.getElem?_eq_some_iff.1 hj).2
    refine ⟨{ w with heap := w.heap.setIfInBounds b (.map (es.modify j fun e => { e with key := kf a, val := .bool true }) clock) }, ?_, ⟨_, _, hs _, ?_, ?_⟩, hg _⟩
    · have hst := K.law.stays w hk
      simp [Instr.mapUpdate, run_underlying ht, getObj, setObj, Sem.run, hb, hck, h2, hj, h4, hst]
    · rw [if_pos h1, ← he, Array.toList_modify]
      apply List.ext_getElem?
      intro i
      simp only [List.getElem?_map, List.getElem?_modify]
      by_cases hij : j = i
      · subst hij
        rw [h3]
        simp [h4, h5]
      · simp [hij]
    · rw [if_pos h1]; exact hl
end

section
variable {κ : Type} {kf : κ → Value} {ok : κ → Prop} {P : Program} {w : World} {ops : Array Oper} {rest : List Oper} {o : Oper} {a : Act} {Q : Exit → Act → World → Prop}
open Classical in
theorem wpList_hasK (hg : o.guard = none) (mo x : Operand) (t : TypeId) (hop : o.op = Op.lookup t mo x false) {kt et : TypeId} (K : KSet P kt kf ok) (ht : P.underlying t = some (.map kt et)) {b : Nat} {l : List κ}
    (hm : SetK kf ok w b l) (k : κ) (hk : ok k) (q : Bool) (hq : q = true ↔ k ∈ l) (hz : (zeroValue et).run P w = .ok (.bool false) w) (hmo : a.eval mo = .map (some b)) (hx : a.eval x = kf k)
    (h : wpList P ops Q rest (a.put o.dst (.bool q)) w) : wpList P ops Q (o :: rest) a w :=
  wpList_plain hg fun _ hK => by
    have hrun := run_hasK K ht hm k hk hz
    have hd : decide (k ∈ l) = q := by
      cases q
      · exact decide_eq_false fun h => by simpa using hq.2 h
      · exact decide_eq_true (hq.1 rfl)
    rw [hd] at hrun
    unfold Oper.wp
    simp [execOp, hop, hmo, hx, hrun, Result.andThen]
    exact hK _ _ h
open Classical in
theorem wpList_putK (hg : o.guard = none) (mo x v : Operand) (t : TypeId) (hop : o.op = Op.mapUpdate t mo x v) {kt et : TypeId} (K : KSet P kt kf ok) (ht : P.underlying t = some (.map kt et)) {b : Nat} {l : List κ}
    (hm : SetK kf ok w b l) (k : κ) (hk : ok k) (hmo : a.eval mo = .map (some b)) (hx : a.eval x = kf k) (hv : a.eval v = .bool true)
    (h : ∀ w' l', SetK kf ok w' b l' → (∀ y, y ∈ l' ↔ y ∈ l ∨ y = k) → w.grownBy w' (some b) → wpList P ops Q rest (a.put o.dst undef) w') : wpList P ops Q (o :: rest) a w :=
  wpList_plain hg fun _ hK => by
    obtain ⟨w', hrun, h1, h2⟩ := run_putK K ht hm k hk
    unfold Oper.wp
    simp [execOp, hop, hmo, hx, hv, hrun, Result.andThen]
    refine hK _ _ (h w' _ h1 (fun y => ?_) h2)
    split
    · rename_i hm
      exact ⟨.inl, fun h => h.elim id fun e => by rw [e]; exact hm⟩
    · simp
end
end Go.Proofs.YtmehghkpghbpjaaGreat


namespace Go.Proofs.YtmehghkpghbpjaaGreat
open Go.ChangeShapes Go.WideShapes Go.ChangeAt Go.RowKit
section
variable {H : Type} {enc : TypeId × Value → H} {P : Program}
theorem post_below {f : Func} {s : ChangeSpec} {apart fresh handsOn again : Bool} {W W' : World} {args : Array Value} {v : Value} {ds gs : List (DataW H)} {before pa pv : List MemPlace}
    (hW : DataW.Whole enc P f.params.toList s.vars apart W args.toList ds gs before) (hb : Below W.heap.size W W') (hps : before = pa ++ pv)
    (hres : ∀ (b : Nat) (sp : Nat → Bool) (hd : Bool), DataW.TrodAll enc P W' b sp hd f.resultTypes.toList (v.resultList f.resultTypes.size) (s.fn H (ds ++ gs)).results [])
    (hargs : ∀ sp : Nat → Bool, (∀ p ∈ before, sp p.block = true) → DataW.TrodAll enc P W' 0 sp true f.params.toList args.toList (s.fn H (ds ++ gs)).args pa)
    (hvars : ∀ sp : Nat → Bool, (∀ p ∈ before, sp p.block = true) → DataW.TrodVars enc P W' sp s.vars (s.fn H (ds ++ gs)).vars pv)
    (hok : ∀ (j : Nat) (t : TypeId) (r : Value), f.resultTypes[j]? = some t → (v.resultList f.resultTypes.size)[j]? = some r → Value.okWide P W' .any 0 t r) :
    s.post enc P f apart fresh handsOn again W args v W' := by
  have hlt : ∀ p ∈ before, p.block < W.heap.size := fun p hp => hW.lt p hp
  have hold : ∀ p ∈ before, (fun b => decide (b < W.heap.size)) p.block = true := fun p hp => by simpa using hlt p hp
  subst hps
  refine ⟨ds, gs, pa ++ pv, [], pa, pv, hW, hres _ _ _, hargs _ hold, hvars _ hold, World.keptBut_mono (fun p hp => ⟨hp, .inr (List.mem_append.1 hp)⟩) (hb.frame (· ∈ pa ++ pv)), fun _ => ⟨hok, ?_⟩⟩
  obtain ⟨_, _, _, _, _, hz, hn⟩ := hW
  refine ⟨_, _, ([] ++ pa) ++ pv, ⟨[] ++ pa, pv, trodAll_append (hargs _ (fun _ _ => rfl)) (hres _ _ _), hvars _ (fun _ _ => rfl), rfl, fun b off hp => ?_, fun ha => ?_⟩, fun p hp _ => ?_⟩
  · have hin : MemPlace.cell b off ∈ pa ++ pv := by simpa using hp
    rw [hb.frozen (hlt _ hin)]
    exact hz b off hin
  · simpa using hn ha
  · simpa using hp
end
end Go.Proofs.YtmehghkpghbpjaaGreat


namespace Go.Proofs.YtmehghkpghbpjaaGreat
open Go.ChangeShapes Go.WideShapes Go.ChangeAt Go.RowKit Go.Deep

theorem list_of {α : Type} {Q : Nat → α → Prop} (n : Nat) (h : ∀ i, i < n → ∃ o, Q i o) : ∃ l : List α, l.length = n ∧ ∀ i o, l[i]? = some o → Q i o := by
  induction n with
  | zero => exact ⟨[], rfl, by simp⟩
  | succ n ih =>
    obtain ⟨l, hl, hq⟩ := ih fun i hi => h i (by omega)
    obtain ⟨o, ho⟩ := h n (by omega)
    refine ⟨l ++ [o], by simp [hl], fun i x hx => ?_⟩
    rcases Nat.lt_or_ge i n with hi | hi
    · rw [List.getElem?_append_left (by omega)] at hx; exact hq i x hx
    · rw [List.getElem?_append_right (by omega), hl] at hx
      rcases Nat.eq_zero_or_pos (i - n) with h0 | h0
      · obtain rfl : i = n := by omega
        simp at hx; subst hx; exact ho
      · rw [List.getElem?_eq_none (by simp; omega)] at hx; cases hx

theorem spot_none {w : World} {a : Addr} {v : Value} (h : w.cell? a = some v) : a.spot = none := by
  unfold World.cell? at h
  split at h
  · split at h
    · cases h
    · rename_i hs; cases hx : a.spot <;> simp_all
  · cases h

theorem cellsH_get {h : List HOp} {w : World} {b off : Nat} (hc : ∀ i o, h[i]? = some o → w.cell? ⟨b, off + i * 3, none⟩ = some (.int .i64 o.tx) ∧ w.cell? ⟨b, off + i * 3 + 1, none⟩ = some (.int .i64 o.what) ∧ w.cell? ⟨b, off + i * 3 + 2, none⟩ = some (.int .i64 o.item)) :
    ∀ j u, (cellsH h)[j]? = some u → w.cell? ⟨b, off + j, none⟩ = some u := by
  intro j u hu
  have hj : j < h.length * 3 := by rw [← cellsH_length]; exact (List.getElem?_eq_some_iff.1 hu).1
  have ho : h[j / 3]? = some (h[j / 3]'(by omega)) := List.getElem?_eq_getElem (by omega)
  obtain ⟨h0, h1, h2⟩ := hc _ _ ho
  obtain ⟨k0, k1, k2⟩ := cellsH_at ho
  have hm : j % 3 = 0 ∨ j % 3 = 1 ∨ j % 3 = 2 := by omega
  rcases hm with hm | hm | hm
  · have e : j = j / 3 * 3 := by omega
    rw [e] at hu ⊢; rw [k0] at hu; rw [h0, ← hu]
  · have e : j = j / 3 * 3 + 1 := by omega
    rw [e] at hu ⊢; rw [k1] at hu; rw [← Nat.add_assoc, h1, ← hu]
  · have e : j = j / 3 * 3 + 2 := by omega
    rw [e] at hu ⊢; rw [k2] at hu; rw [← Nat.add_assoc, h2, ← hu]

theorem add_off (b off i j : Nat) : ((⟨b, off, none⟩ : Addr).add i).add j = ⟨b, off + i + j, none⟩ := by
  unfold Addr.add
  by_cases hi : i = 0 <;> by_cases hj : j = 0 <;> simp [hi, hj]

section
variable {H : Type} {enc : TypeId × Value → H} {P : Program} {W : World}
theorem open_opsc {t e ti : TypeId} {f0 f1 f2 : Field} (ht : P.underlying t = some (.slice e)) (he : P.underlying e = some (.struct #[f0, f1, f2])) (hi : P.underlying ti = some (.int .i64)) (h0 : f0.type = ti) (h1 : f1.type = ti) (h2 : f2.type = ti)
    (hone : oneCellFields P #[f0, f1, f2] = true) (hC : P.cellsOf e = 3) {base : Nat} {v : Value} {d : DataW H} {p : List MemPlace} (hv : Value.okWide P W .any base t v) (h : DataW.Trod enc P W 0 (fun _ => true) true t v d p)
    (hsz : ∀ elems spare, d = .slice elems spare → (elems.length + spare.length) * 24 ≤ reachBytes) :
    ∃ A n c l, v = .slice A n c ∧ Rd W W.heap.size 3 A n (cellsH l) ∧ n * 24 ≤ 140737488351232 ∧ n ≤ c := by
  obtain ⟨A, n, c, rfl⟩ := okWide_slice ht hv
  obtain ⟨fuel, hf⟩ := h
  rcases open_slice ht hf with ⟨hcs, _⟩ | ⟨a, len, cap, m, k, D, Pl, hcs, _, hlc, hcm, hm, hx, hel⟩
  · simp [Value.cells] at hcs
    obtain ⟨rfl, rfl, rfl⟩ := hcs
    exact ⟨none, 0, 0, [], rfl, Rd.nil, by omega, by omega⟩
  · simp [Value.cells] at hcs
    obtain ⟨rfl, rfl, rfl⟩ := hcs
    simp only [if_true] at hm
    subst hm
    have hb : n * 24 ≤ 140737488351232 := by
      simp only [Prod.mk.injEq] at hx
      have := hsz _ _ hx.1
      simp only [List.length_map, List.length_range, reachBytes] at this
      omega
    have hcell : ∀ i, i < n → ∃ o : HOp, W.cell? ((a.add (i * 3)).add 0) = some (.int .i64 o.tx) ∧ W.cell? ((a.add (i * 3)).add 1) = some (.int .i64 o.what) ∧ W.cell? ((a.add (i * 3)).add 2) = some (.int .i64 o.item) := by
      intro i hin
      obtain ⟨cs', hc, ht'⟩ := hel i (by omega)
      rw [hC] at hc
      obtain ⟨ys, n', _, _, hlen, hyl, hfs⟩ := DataW.trod_struct he ht'
      obtain ⟨_, hcl, hat⟩ := World.cells?_some hc
      have key : ∀ (j : Nat) (f : Field), (#[f0, f1, f2] : Array Field)[j]? = some f → f.type = ti → ∃ x : Int, cs'[j]? = some (Value.int .i64 x) := by
        intro j f hj hft
        obtain ⟨ho, hk⟩ := hone_of hone j f hj
        have hjl : j < 3 := by simpa using (Array.getElem?_eq_some_iff.1 hj).1
        have h1 := hfs j f hj
        rw [ho, hk, hft] at h1
        have hone' : (cs'.drop j).take 1 = [cs'[j]'(by omega)] := by
          rw [List.drop_eq_getElem_cons (by omega)]; rfl
        rw [hone', List.getElem?_eq_getElem (by rw [hyl]; simpa using hjl)] at h1
        obtain ⟨x, hcx, _⟩ := DataW.trod_int hi h1
        simp only [List.cons.injEq, and_true] at hcx
        exact ⟨x, by rw [List.getElem?_eq_getElem (by omega), hcx]⟩
      obtain ⟨x0, e0⟩ := key 0 f0 rfl h0
      obtain ⟨x1, e1⟩ := key 1 f1 rfl h1
      obtain ⟨x2, e2⟩ := key 2 f2 rfl h2
      exact ⟨⟨x0, x1, x2⟩, (hat 0 (by omega)).trans e0, (hat 1 (by omega)).trans e1, (hat 2 (by omega)).trans e2⟩
    obtain ⟨l, hll, hl⟩ := list_of n hcell
    refine ⟨some a, n, _, l, rfl, ⟨by rw [cellsH_length, hll], fun hn => ?_⟩, hb, by omega⟩
    obtain ⟨o, ho, _, _⟩ := hcell 0 hn
    obtain ⟨b, off, s⟩ := a
    have hs : s = none := by
      have := spot_none ho
      simpa [Addr.add] using this
    subst hs
    have hbl := World.block_lt_of_cell? W _ ho
    rw [add_off] at hbl
    refine ⟨b, off, rfl, hbl, cellsH_get fun i o hio => ?_⟩
    have := hl i o hio
    rw [add_off, add_off, add_off] at this
    exact this
theorem open_ops {t e ti : TypeId} {f0 f1 f2 : Field} (ht : P.underlying t = some (.slice e)) (he : P.underlying e = some (.struct #[f0, f1, f2])) (hi : P.underlying ti = some (.int .i64)) (h0 : f0.type = ti) (h1 : f1.type = ti) (h2 : f2.type = ti)
    (hone : oneCellFields P #[f0, f1, f2] = true) (hC : P.cellsOf e = 3) {base : Nat} {v : Value} {d : DataW H} {p : List MemPlace} (hv : Value.okWide P W .any base t v) (h : DataW.Trod enc P W 0 (fun _ => true) true t v d p)
    (hsz : ∀ elems spare, d = .slice elems spare → (elems.length + spare.length) * 24 ≤ reachBytes) :
    ∃ A n c l, v = .slice A n c ∧ Rd W W.heap.size 3 A n (cellsH l) ∧ n * 24 ≤ 140737488351232 := by
  obtain ⟨A, n, c, l, h1, h2, h3, _⟩ := open_opsc ht he hi h0 h1 h2 hone hC hv h hsz
  exact ⟨A, n, c, l, h1, h2, h3⟩
theorem open_isc {t e : TypeId} (ht : P.underlying t = some (.slice e)) (he : P.underlying e = some (.int .i64)) (hC : P.cellsOf e = 1) {base : Nat} {v : Value} {d : DataW H} {p : List MemPlace} (hv : Value.okWide P W .any base t v) (h : DataW.Trod enc P W 0 (fun _ => true) true t v d p)
    (hsz : ∀ elems spare, d = .slice elems spare → (elems.length + spare.length) * 8 ≤ reachBytes) :
    ∃ A n c l, v = .slice A n c ∧ Rd W W.heap.size 1 A n (cellsI l) ∧ n * 8 ≤ 140737488351232 ∧ n ≤ c := by
  obtain ⟨A, n, c, rfl⟩ := okWide_slice ht hv
  obtain ⟨fuel, hf⟩ := h
  rcases open_slice ht hf with ⟨hcs, _⟩ | ⟨a, len, cap, m, k, D, Pl, hcs, _, hlc, hcm, hm, hx, hel⟩
  · simp [Value.cells] at hcs
    obtain ⟨rfl, rfl, rfl⟩ := hcs
    exact ⟨none, 0, 0, [], rfl, Rd.nil, by omega, by omega⟩
  · simp [Value.cells] at hcs
    obtain ⟨rfl, rfl, rfl⟩ := hcs
    simp only [if_true] at hm
    subst hm
    have hb : n * 8 ≤ 140737488351232 := by
      simp only [Prod.mk.injEq] at hx
      have := hsz _ _ hx.1
      simp only [List.length_map, List.length_range, reachBytes] at this
      omega
    have hcell : ∀ i, i < n → ∃ x : Int, W.cell? ((a.add (i * 1)).add 0) = some (.int .i64 x) := by
      intro i hin
      obtain ⟨cs', hc, ht'⟩ := hel i (by omega)
      rw [hC] at hc
      obtain ⟨_, hcl, hat⟩ := World.cells?_some hc
      obtain ⟨x, hcx, _⟩ := DataW.trod_int he ht'
      exact ⟨x, (hat 0 (by omega)).trans (by rw [hcx]; rfl)⟩
    obtain ⟨l, hll, hl⟩ := list_of n hcell
    refine ⟨some a, n, _, l, rfl, ⟨by rw [cellsI, List.length_map, hll]; omega, fun hn => ?_⟩, hb, by omega⟩
    obtain ⟨x, hx0⟩ := hcell 0 hn
    obtain ⟨b, off, s⟩ := a
    have hs : s = none := by
      have := spot_none hx0
      simpa [Addr.add] using this
    subst hs
    have hbl := World.block_lt_of_cell? W _ hx0
    rw [add_off] at hbl
    refine ⟨b, off, rfl, hbl, fun j u hu => ?_⟩
    rw [cellsI, List.getElem?_map] at hu
    cases hlj : l[j]? with
    | none => rw [hlj] at hu; cases hu
    | some x =>
      rw [hlj] at hu
      have := hl j x hlj
      rw [add_off, Nat.mul_one, Nat.add_zero] at this
      rw [this]; exact hu
theorem open_is {t e : TypeId} (ht : P.underlying t = some (.slice e)) (he : P.underlying e = some (.int .i64)) (hC : P.cellsOf e = 1) {base : Nat} {v : Value} {d : DataW H} {p : List MemPlace} (hv : Value.okWide P W .any base t v) (h : DataW.Trod enc P W 0 (fun _ => true) true t v d p)
    (hsz : ∀ elems spare, d = .slice elems spare → (elems.length + spare.length) * 8 ≤ reachBytes) :
    ∃ A n c l, v = .slice A n c ∧ Rd W W.heap.size 1 A n (cellsI l) ∧ n * 8 ≤ 140737488351232 := by
  obtain ⟨A, n, c, l, h1, h2, h3, _⟩ := open_isc ht he hC hv h hsz
  exact ⟨A, n, c, l, h1, h2, h3⟩
end

/-- The row's last step where slices are among the arguments: below the heap's old size nothing has turned. -/
theorem post_slices {H : Type} {enc : TypeId × Value → H} {P : Program} {f : Func} {s : ChangeSpec} {apart fresh handsOn : Bool} {W W' : World} {args : Array Value} {v : Value} {ds gs : List (DataW H)} {before pa pv : List MemPlace}
    (hW : DataW.Whole enc P f.params.toList s.vars apart W args.toList ds gs before) (hb : Below W.heap.size W W') (hps : before = pa ++ pv)
    (hres : ∀ (b : Nat) (sp : Nat → Bool) (hd : Bool), DataW.TrodAll enc P W' b sp hd f.resultTypes.toList (v.resultList f.resultTypes.size) (s.fn H (ds ++ gs)).results [])
    (hargs : DataW.TrodAll enc P W' 0 (fun b => decide (b < W.heap.size)) true f.params.toList args.toList (s.fn H (ds ++ gs)).args pa)
    (hvars : DataW.TrodVars enc P W' (fun b => decide (b < W.heap.size)) s.vars (s.fn H (ds ++ gs)).vars pv) :
    s.post enc P f apart fresh handsOn false W args v W' := by
  subst hps
  exact ⟨ds, gs, pa ++ pv, [], pa, pv, hW, hres _ _ _, hargs, hvars, World.keptBut_mono (fun p hp => ⟨hp, .inr (List.mem_append.1 hp)⟩) (hb.frame (· ∈ pa ++ pv)), fun h => by cases h⟩
theorem laidOut : laidOutB Tryz.prog = true := by kernel_rfl
end Go.Proofs.YtmehghkpghbpjaaGreat
