
/-
  A LAW: a region that draws its order and whose last operation writes a cell that another of its operations reads: what holds of the world need hold only till that last operation.
  CONTRACT of the runner's drain, from that of do.
  CONTRACT of the runner's avoid, from that of abort.
-/
import Derived.Test.YtmehghkpghbpjaaGreatQ0
import Derived.OrdersHeld
import Derived.StillTail
import Derived.Test.YtmehghkpghbpjaaGreatQ22

namespace Go.Proofs.YtmehghkpghbpjaaGreat
open Go.RowKit

section
variable {P : Program} {ops : Array Oper} {Q : Exit → Act → World → Prop} {md : Region.Mode} {S : World → Prop} {T : Nat}
/-- In whatever order; behind each operation but number T, S holds. -/
def wpTill (P : Program) (md : Region.Mode) (ops : Array Oper) (Q : Exit → Act → World → Prop) (S : World → Prop) (T : Nat) : Nat → Array Bool → Act → World → Prop
  | 0, listed, a, w => Region.ready md ops listed = [] ∧ Q .normal a w
  | f + 1, listed, a, w => (Region.ready md ops listed = [] → Q .normal a w) ∧
    ∀ i ∈ Region.ready md ops listed, wpOp P ops Q i (fun a' w' => (i ≠ T → S w') ∧ wpTill P md ops Q S T f (listed.setIfInBounds i true) a' w') a w
theorem wpAny_of_till : ∀ (f : Nat) (listed : Array Bool) (a : Act) (w : World), wpTill P md ops Q S T f listed a w → wpAny P md ops Q f listed a w
  | 0, _, _, _, h => h
  | f + 1, _, _, _, h => ⟨h.1, fun i hi => wpOp_mono (fun a' w' h' => wpAny_of_till f _ a' w' h'.2) (h.2 i hi)⟩
/-- What is listed, all that it waits for is listed. -/
def ShutL (md : Region.Mode) (ops : Array Oper) (listed : Array Bool) : Prop := ∀ j oj, ops[j]? = some oj → listed.getD j false = true → ∀ e ∈ oj.after, Region.binds md e = true → listed.getD e.on false = true
def shutB (md : Region.Mode) (ops : Array Oper) (listed : Array Bool) : Bool := (List.range ops.size).all fun j => !listed.getD j false || ((ops[j]?).map fun o => o.after.all fun e => !Region.binds md e || listed.getD e.on false).getD true
theorem shutB_spec {listed : Array Bool} (h : shutB md ops listed = true) : ShutL md ops listed := fun j oj hj hl e he hb => by
  have h1 := List.all_eq_true.1 h j (List.mem_range.2 (Array.getElem?_eq_some_iff.1 hj).1)
  rw [hl, hj] at h1
  simp only [Bool.not_true, Bool.false_or, Option.map_some, Option.getD_some, Array.all_eq_true_iff_forall_mem] at h1
  have h2 := h1 e he
  simpa [hb] using h2
theorem ShutL.set {listed : Array Bool} {i : Nat} (h : ShutL md ops listed) (hi : i ∈ Region.ready md ops listed) : ShutL md ops (listed.setIfInBounds i true) := fun j oj hj hl e he hb => by
  obtain ⟨_, oi, hoi, hall⟩ := mem_ready.1 hi
  by_cases hij : i = j
  · subst hij
    rw [hoi] at hj
    cases hj
    exact getD_set_true (hall e he hb)
  · rw [getD_set_ne false hij] at hl
    exact getD_set_true (h j oj hj hl e he hb)
/-- A chain of operations each of which waits for the next one. -/
def chainW (md : Region.Mode) (ops : Array Oper) : List Nat → Bool
  | a :: b :: r => Region.waitsFor md ops a b && chainW md ops (b :: r)
  | _ => true
theorem chainW_listed {listed : Array Bool} (h : ShutL md ops listed) : ∀ (r : List Nat) (a : Nat), listed.getD a false = true → chainW md ops (a :: r) = true → ∀ x ∈ r, listed.getD x false = true
  | [], _, _, _, _, hx => by cases hx
  | b :: r, a, ha, hc, x, hx => by
    rw [chainW, Bool.and_eq_true] at hc
    obtain ⟨oa, hoa, e, he, hb, hon⟩ := Region.waitsFor_spec hc.1
    have h1 := h a oa hoa ha e he hb
    rw [hon] at h1
    rcases List.mem_cons.1 hx with e' | e'
    · rw [e']; exact h1
    · exact chainW_listed h r b h1 hc.2 x e'
theorem last_waits {listed : Array Bool} (h : ShutL md ops listed) {r : List Nat} {i : Nat} (hc : chainW md ops (T :: r) = true) (hi : i ∈ r) (hT : T ∈ Region.ready md ops listed) : listed.getD i false = true := by
  obtain ⟨_, ot, hot, hall⟩ := mem_ready.1 hT
  cases r with
  | nil => cases hi
  | cons b r =>
    rw [chainW, Bool.and_eq_true] at hc
    obtain ⟨oa, hoa, e, he, hb, hon⟩ := Region.waitsFor_spec hc.1
    rw [hot] at hoa
    cases hoa
    have h1 := hall e he hb
    rw [hon] at h1
    rcases List.mem_cons.1 hi with e' | e'
    · rw [e']; exact h1
    · exact chainW_listed h r b h1 hc.2 i e'
theorem getD_clash {listed : Array Bool} {i : Nat} (h0 : listed.getD i true = false) (h1 : listed.getD i false = true) : False := by
  rcases Nat.lt_or_ge i listed.size with h' | h'
  · simp [h'] at h0 h1; rw [h0] at h1; cases h1
  · simp [Array.getElem?_eq_none h'] at h1
theorem wpTill_first {i : Nat} {oi : Oper} {v : Value} (hi : ops[i]? = some oi) (hsel : ∀ (j : Nat) (o : Oper) cs b, ops[j]? = some o → o.op ≠ .select cs b)
    (hQ : ∀ c a w, Q (.panic c) (a.put oi.dst v) w → Q (.panic c) a w) {r : List Nat} (hc : chainW md ops (T :: r) = true) (hir : i ∈ r) :
    ∀ (fuel : Nat) (listed : Array Bool) (a : Act) (w : World), ShutL md ops listed →
      (∀ j oj, ops[j]? = some oj → j ≠ i → listed.getD j true = false → (∀ e ∈ oj.after, Region.binds md e = true → e.on ≠ i) → oi.apart ops oj = true) →
      i ∈ Region.ready md ops listed → YieldsIf P ops S oi v a → S w →
      wpTill P md ops Q S T fuel (listed.setIfInBounds i true) (a.put oi.dst v) w → wpTill P md ops Q S T (fuel + 1) listed a w := by
  intro fuel
  induction fuel with
  | zero =>
    intro listed a w _ _ hr hy hS H
    refine ⟨fun h => (by rw [h] at hr; cases hr), fun j hj => ?_⟩
    by_cases hji : j = i
    · subst hji; exact hy.wpOp hi hS ⟨fun _ => hS, H⟩
    · have := ready_mono hj hji
      rw [H.1] at this
      cases this
  | succ fuel ih =>
    intro listed a w hsh hfree hr hy hS H
    refine ⟨fun h => (by rw [h] at hr; cases hr), fun j hj => ?_⟩
    by_cases hji : j = i
    · subst hji; exact hy.wpOp hi hS ⟨fun _ => hS, H⟩
    · have hjT : j ≠ T := fun e => getD_clash (mem_ready.1 hr).1 (last_waits hsh hc hir (by rw [← e]; exact hj))
      have h1 := H.2 j (ready_mono hj hji)
      obtain ⟨hjun, oj, hoj, hall⟩ := mem_ready.1 hj
      have hnot : ∀ e ∈ oj.after, Region.binds md e = true → e.on ≠ i := fun e he hb heq => by
        have h2 := hall e he hb
        rw [heq] at h2
        exact getD_clash (mem_ready.1 hr).1 h2
      have h2 := wpOp_putIf hoj (hfree j oj hoj hji hjun hnot) (fun cs b => hsel i oi cs b hi) (fun cs b => hsel j oj cs b hoj) hQ hy h1
      have hfree' : ∀ k ok, ops[k]? = some ok → k ≠ i → (listed.setIfInBounds j true).getD k true = false →
          (∀ e ∈ ok.after, Region.binds md e = true → e.on ≠ i) → oi.apart ops ok = true := fun k ok hk hki hun hno => by
        refine hfree k ok hk hki ?_ hno
        by_cases hjk : j = k
        · subst hjk; exact hjun
        · rw [getD_set_ne true hjk] at hun; exact hun
      refine wpOp_mono (fun a' w' h3 => ⟨h3.2.1, ih (listed.setIfInBounds j true) a' w' (hsh.set hj) hfree' (ready_mono hr (Ne.symm hji)) h3.1 (h3.2.1 hjT) ?_⟩) h2
      rw [Array.setIfInBounds_comm _ _ hji]
      exact h3.2.2
/-- Take number i first; r is a chain from number T on that leads to it. -/
theorem wpTill_take (i : Nat) (r : List Nat) {oi : Oper} {v : Value} {fuel : Nat} {listed : Array Bool} {a : Act} {w : World} (hi : ops[i]? = some oi)
    (hs : Region.noSelect ops = true) (hf : Region.free md ops listed i = true) (hr : (Region.ready md ops listed).contains i = true) (hsh : shutB md ops listed = true) (hc : chainW md ops (T :: r) = true) (hir : r.contains i = true)
    (hQ : ∀ c a w, Q (.panic c) (a.put oi.dst v) w → Q (.panic c) a w) (hS : S w) (hw : Region.wanted oi (yielded ops a.tmps) = true) (hy : ∀ w, S w → (execOp a.eval oi).run P w = .ok (.value v) w)
    (h : wpTill P md ops Q S T fuel (listed.setIfInBounds i true) (a.put oi.dst v) w) : wpTill P md ops Q S T (fuel + 1) listed a w :=
  wpTill_first hi (Region.noSelect_spec hs) hQ hc (by simpa using hir) fuel listed a w (shutB_spec hsh) (Region.free_spec hi hf) (by simpa using hr) (.inl ⟨hw, hy⟩) hS h
/-- The one operation that may come up now comes up. -/
theorem wpTill_one (i : Nat) {o : Oper} {fuel : Nat} {listed : Array Bool} {a : Act} {w : World} (ho : ops[i]? = some o) (hr : Region.ready md ops listed = [i])
    (h : ∀ K : Act → World → Prop, (∀ a' w', (i ≠ T → S w') → wpTill P md ops Q S T fuel (listed.setIfInBounds i true) a' w' → K a' w') → if Region.wanted o (yielded ops a.tmps) = true then Oper.wp P o a w K Q else K (a.put o.dst undef) w) :
    wpTill P md ops Q S T (fuel + 1) listed a w :=
  ⟨fun h0 => (by rw [hr] at h0; cases h0), fun j hj => by
    rw [hr, List.mem_singleton] at hj
    subst hj
    exact wpOp_step ho (fun K' hK => h K' fun a' w' h1 h2 => hK a' w' ⟨h1, h2⟩)⟩
theorem wpTill_done {listed : Array Bool} {a : Act} {w : World} (hr : Region.ready md ops listed = []) (h : Q .normal a w) : ∀ fuel, wpTill P md ops Q S T fuel listed a w
  | 0 => ⟨hr, h⟩
  | _ + 1 => ⟨fun _ => h, by rw [hr]; simp⟩
theorem wp_region_till {id : Nat} {a : Act} {w : World} (S : World → Prop) (T : Nat) (hm : P.follows .mixedOrders = true) (hS : S w.drew)
    (h : S w.drew → wpTill P .any ops Q S T ops.size (Array.replicate ops.size false) a w.drew) : (Code.region id ops true).wp P Q a w :=
  wp_region_any hm (wpAny_of_till _ _ _ _ (h hS))
end
end Go.Proofs.YtmehghkpghbpjaaGreat


namespace Go.Proofs.YtmehghkpghbpjaaGreat
open Go.RowKit

theorem least_ex {p : Nat → Prop} (h : ∃ m, p m) : ∃ m, p m ∧ ∀ k, p k → m ≤ k := by
  obtain ⟨m, hm⟩ := h
  induction m using Nat.strongRecOn with
  | ind m ih =>
    by_cases h2 : ∃ k, k < m ∧ p k
    · obtain ⟨k, hk, hp⟩ := h2
      exact ih k hk hp
    · exact ⟨m, hm, fun k hk => Nat.le_of_not_lt fun hl => h2 ⟨k, hl, hk⟩⟩
theorem least_spec {p : Nat → Prop} (h : ∃ m, p m) : p (Classical.epsilon fun m => p m ∧ ∀ k, p k → m ≤ k) ∧ ∀ k, p k → (Classical.epsilon fun m => p m ∧ ∀ k, p k → m ≤ k) ≤ k :=
  Classical.epsilon_spec (least_ex h)
theorem QRow.shape {w : World} {lo : Nat} {e : TypeId} {v : Value} {l : List HOp} (h : QRow w lo e v l) : ∃ A c, v = .slice A l.length c := by
  rcases h with ⟨rfl, rfl⟩ | ⟨g, o, c, cur, rfl, _⟩
  · exact ⟨none, 0, rfl⟩
  · exact ⟨_, c, rfl⟩
/-- Where drain stands, with so much fuel left. -/
def DrainI (way : Int) (lo n : Nat) (tx : Int) (s' : RSt) (L : RLay) (w : World) (tag : Nat → Int × Nat) (wr : World) (m : Nat) : Prop :=
  ∃ s1 xH xW xT xV tag1, m ≤ n + 1 ∧ runJ way m (.drain tx) s1 = some s' ∧ SHeap way lo wr s1 ⟨L.g, L.gt, L.gw, L.gb, L.ga, xH, xW, xT, xV⟩ tag1 ∧ StepS w wr tag tag1
theorem drainE_pos {way : Int} {m : Nat} {tx : Int} {s s' : RSt} (h : runJ way m (.drain tx) s = some s') : ∃ m', m = m' + 1 := by
  cases m with
  | zero => simp [runJ] at h
  | succ m => exact ⟨m, rfl⟩

set_option maxRecDepth 100000 in
set_option maxHeartbeats 4000000 in
theorem drain_any {way : Int} {lo n : Nat} (hO : ∀ m, m ≤ n → DoC way lo m) : DrainC way lo (n + 1) := by
  intro tx s s' L tag w H hrun ht hv
  have HLE := Lib.hid (And.intro ht hv)
  have hmap2 : Tryz.prog.underlying 62 = some (.map 3 54) := by kernel_rfl
  have hmap3 : Tryz.prog.underlying 63 = some (.map 3 22) := by kernel_rfl
  have hintT : Tryz.prog.underlying 3 = some (.int .i64) := by kernel_rfl
  have hz2 : ∀ w, (zeroValue 54).run Tryz.prog w = .ok (⟨0, 0, 0⟩ : HOp).val w := fun w => by kernel_rfl
  have hz3 : ∀ w, (zeroValue 22).run Tryz.prog w = .ok nilS w := fun w => by kernel_rfl
  have HT := Lib.hid (And.intro hmap2 (And.intro hmap3 (And.intro hintT (And.intro hz2 hz3))))
  have hst : DrainI way lo n tx s' L w tag w (n + 1) := by
    obtain ⟨g, gt, gw, gb, ga, vH, vW, vT, vV⟩ := L
    exact ⟨s, vH, vW, vT, vV, tag, Nat.le_refl _, hrun, H, StepS.refl _ _⟩
  clear hmap2 hmap3 hintT hz2 hz3 ht hv hrun H
  go_enter Tryz.func81, Tryz.ntmps81
  go_wp2
  go_loopw [4] (fun s4 wr => s4 = .nilIface ∧ ∃ m, DrainI way lo n tx s' L w tag wr m) (fun _ wr => Classical.epsilon (fun m => DrainI way lo n tx s' L w tag wr m ∧ ∀ k, DrainI way lo n tx s' L w tag wr k → m ≤ k))
  case atStart => exact ⟨rfl, _, hst⟩
  case round =>
    clear hst
    obtain ⟨rfl, hex⟩ := hrel
    obtain ⟨h1, h2⟩ := least_spec hex
    have HLS := Lib.hid h2
    generalize (Classical.epsilon fun m => DrainI way lo n tx s' L w tag wr m ∧ ∀ k, DrainI way lo n tx s' L w tag wr k → m ≤ k) = m0 at *
    obtain ⟨s1, xH, xW, xT, xV, tag1, hm, hr1, hH, hS⟩ := h1
    obtain ⟨m, rfl⟩ := drainE_pos hr1
    unfold runJ at hr1
    obtain ⟨_, _, q2, q3, _⟩ := hH.cells
    simp only at q2 q3
    have hgr1 : L.g < wr.heap.size := hH.run.1.lt
    obtain ⟨fb, hfb1, hfb2⟩ := hH.bh
    simp only at hfb1
    obtain ⟨V, hV⟩ : ∃ V, (fb tx).getD nilS = V := ⟨_, rfl⟩
    have hq1 := (hfb2 tx).1
    rw [hV] at hq1
    have HV := Lib.hid hV
    clear hex h2 hV
    cases hbx : s1.bh tx with
    | nil =>
      rw [hbx] at hr1 hq1
      simp only at hr1
      injection hr1 with hr1
      subst hr1
      obtain ⟨A, c, rfl⟩ := hq1.shape
      simp only [List.length_nil] at HV
      have HH := Lib.hid hH
      go_wp2_with ((with_reducible show wpList _ _ _ _ _ _); (refine wpList_lookupF rfl (.tmp 12) (.tmp 13) _ false rfl HT.out.2.1 HT.out.2.2.1 hfb1.1 (k := tx) (HT.out.2.2.2.2) rfl rfl ?_; rw [if_neg (by simp), HV.out]))
      go_ret
      exact ⟨rfl, _, tag1, HH.out, ⟨rfl, rfl, rfl, rfl, rfl⟩, hS⟩
    | cons o t =>
      rw [hbx] at hr1 hq1
      simp only at hr1
      obtain ⟨gq, off, c, rfl, hlc, hgq, z0, z1, z2, htl⟩ := hq1.head
      obtain ⟨nt, hnt⟩ : ∃ nt, t.length = nt := ⟨_, rfl⟩
      have HNT := Lib.hid hnt
      rw [hnt] at hlc htl HV
      have hlt0 : (0 : Int) < (nt : Int) + 1 := by omega
      have hlt0n : 0 < nt + 1 := by omega
      have HTLV := Lib.hid htl
      clear hq1 htl hnt
      cases hwt : s1.wt tx with
      | some ow =>
        rw [hwt] at hr1
        rw [if_pos (show (some ow).isSome = true from rfl)] at hr1
        injection hr1 with hr1
        subst hr1
        have hfw : fWt s1 tx = some ow.val := by unfold fWt; rw [hwt]; rfl
        obtain ⟨o1, o2, o3⟩ := ow
        unfold HOp.val at hfw
        have HFW := Lib.hid hfw
        have HH := Lib.hid hH
        clear hfw
        go_wp2_with (first
          | ((with_reducible show wpList _ _ _ _ _ _); (refine wpList_lookupF rfl (.tmp 12) (.tmp 13) _ false rfl HT.out.2.1 HT.out.2.2.1 hfb1.1 (k := tx) (HT.out.2.2.2.2) rfl rfl ?_; rw [if_neg (by simp), HV.out]))
          | ((with_reducible show wpList _ _ _ _ _ _); (refine wpList_lookupF rfl (.tmp 21) (.tmp 22) _ true rfl HT.out.1 HT.out.2.2.1 HH.out.wt.1 (k := tx) (HT.out.2.2.2.1) rfl rfl ?_; rw [if_pos rfl, HFW.out]; simp only [Option.getD_some, Option.isSome_some])))
        go_ret
        have hbl := (Below.refl wr.heap.size wr).alloc (Nat.le_refl _) (.cells #[.int .i64 o1, .int .i64 o2, .int .i64 o3] 54)
        exact ⟨rfl, _, tag1, HH.out.below hbl, ⟨rfl, rfl, rfl, rfl, rfl⟩, hS.trans (StepS.below hbl)⟩
      | none =>
        rw [hwt] at hr1
        rw [if_neg (by simp)] at hr1
        have hfw : fWt s1 tx = none := by unfold fWt; rw [hwt]; rfl
        have HFW := Lib.hid hfw
        have HH := Lib.hid hH
        cases hq : runJ way m (.doo o) { s1 with bh := updR s1.bh tx t } with
        | none => rw [hq] at hr1; cases hr1
        | some s2 =>
        rw [hq] at hr1
        simp only at hr1
        have HR2 := Lib.hid hr1
        have hlen2 := runJ_told _ _ _ _ hr1
        have CD := hide (fun L2 tag2 w2 (h2 : SHeap way lo w2 { s1 with bh := updR s1.bh tx t } L2 tag2) => hO m (by omega) o _ s2 L2 tag2 w2 h2 hq (by have := HLE.out; omega) (by have := HLE.out; omega))
        obtain ⟨o1, o2, o3⟩ := o
        simp only at z0 z1 z2
        have hba : Below wr.heap.size wr (wr.alloc (.cells #[.int .i64 0, .int .i64 0, .int .i64 0] 54)) := (Below.refl _ _).alloc (Nat.le_refl _) _
        have hfa := hfb1.but (tag' := tag1) (But.below hba (Nat.le_refl _) : But wr.heap.size tag1 (fun _ => False) wr _) id fun _ _ => rfl
        clear hfw hr1 hq hlen2
        go_wp2_with (first
          | ((with_reducible show wpList _ _ _ _ _ _); (refine wpList_lookupF rfl (.tmp 12) (.tmp 13) _ false rfl HT.out.2.1 HT.out.2.2.1 hfb1.1 (k := tx) (HT.out.2.2.2.2) rfl rfl ?_; rw [if_neg (by simp), HV.out]))
          | ((with_reducible show wpList _ _ _ _ _ _); (refine wpList_lookupF rfl (.tmp 21) (.tmp 22) _ true rfl HT.out.1 HT.out.2.2.1 HH.out.wt.1 (k := tx) (HT.out.2.2.2.1) rfl rfl ?_; rw [if_pos rfl, HFW.out]; simp only [Option.getD_none, Option.isSome_none]; unfold HOp.val))
          | ((with_reducible show wpList _ _ _ _ _ _); (refine wpList_lookupF rfl (.tmp 30) (.tmp 31) _ false rfl HT.out.2.1 HT.out.2.2.1 hfa.1 (k := tx) (HT.out.2.2.2.2) rfl rfl ?_; rw [if_neg (by simp), HV.out])))
        have hbb : Below wr.heap.size wr ((wr.alloc (.cells #[.int .i64 0, .int .i64 0, .int .i64 0] 54)).alloc (.cells #[.int .i64 o1, .int .i64 o2, .int .i64 o3] 54)) := hba.alloc hba.size _
        have hB7 : Blk ((wr.alloc (.cells #[.int .i64 0, .int .i64 0, .int .i64 0] 54)).alloc (.cells #[.int .i64 o1, .int .i64 o2, .int .i64 o3] 54)) (wr.heap.size + 1) 54 [.int .i64 o1, .int .i64 o2, .int .i64 o3] := by
          have := Blk.new (wr.alloc (.cells #[.int .i64 0, .int .i64 0, .int .i64 0] 54)) 54 [.int .i64 o1, .int .i64 o2, .int .i64 o3]
          simpa using this
        generalize (wr.alloc (.cells #[.int .i64 0, .int .i64 0, .int .i64 0] 54)).alloc (.cells #[.int .i64 o1, .int .i64 o2, .int .i64 o3] 54) = wb at *
        have hbd := hbb.drew
        have hHd := hH.below hbd
        have hfd := hfb1.but (tag' := tag1) (But.below hbd (Nat.le_refl _) : But wr.heap.size tag1 (fun _ => False) wr _) id fun _ _ => rfl
        obtain ⟨_, _, _, b3, _⟩ := hHd.cells
        simp only at b3
        have b3' : wb.cell? ⟨L.g, 3, none⟩ = some (.map (some L.gb)) := b3
        have lk : (Instr.lookup 63 (.map (some L.gb)) (.int .i64 tx) false).run Tryz.prog wb.drew = .ok (.slice (some ⟨gq, off, none⟩) (nt + 1) c) wb.drew := by
          rw [run_lookupF HT.out.2.1 HT.out.2.2.1 hfd.1 tx (HT.out.2.2.2.2 _) false, if_neg (by simp), HV.out]
        have hl1 : (1 : Int) ≤ (nt : Int) + 1 := by omega
        have hl2 : (nt : Int) + 1 ≤ (c : Int) := by omega
        have e1 : nt + 1 - 1 = nt := by omega
        have HHD := Lib.hid hHd
        have HFD := Lib.hid hfd
        have hrow := HTLV.out.kept (w' := wb.drew) (fun g hg => (hbd.block g (by
          have : gq = g := by
            simp only [Value.ownBlock] at hg
            split at hg <;> exact Option.some.inj hg
          omega)))
        have HROW := Lib.hid hrow
        have HFB2 := Lib.hid (fun k => And.intro ((hfb2 k).1.kept (w' := wb.drew) (fun g hg => hbd.block g ((hfb2 k).1.lt hg).2)) (hfb2 k).2)
        have HGB := Lib.hid (show L.gb < wr.heap.size from hfb1.1.lt)
        have htg : tag1 gq = (tx, 9) := (hfb2 tx).2 gq (by rw [HV.out]; rfl)
        have HTG := Lib.hid htg
        have hSb := hS.trans (StepS.below (tag := tag1) hbd)
        have HRN : wr.heap.size + 1 < wb.heap.size := hB7.lt
        clear hba hfa hbb hHd hfd hrow htg z0 z1 z2 hS hfb1 hfb2 hH HTLV q2 q3
        obtain ⟨V2, hV2⟩ : ∃ V2, Value.slice (some (if c = 1 then (⟨gq, off, none⟩ : Addr) else ⟨gq, off + 3, none⟩)) nt (c - 1) = V2 := ⟨_, rfl⟩
        rw [hV2] at HROW
        have HB2 := Lib.hid (show V2.ownBlock = some gq by rw [← hV2]; simp only [Value.ownBlock]; split <;> rfl)
        have HFIN : Hid (∀ w3, MapF w3 L.gb (updR fb tx (some V2)) → wb.drew.grownBy w3 (some L.gb) → SHeap way lo w3 { s1 with bh := updR s1.bh tx t } ⟨L.g, L.gt, L.gw, L.gb, L.ga, xH, xW, xT, xV⟩ tag1 ∧ StepS w w3 tag tag1 ∧ Blk w3 (wr.heap.size + 1) 54 [.int .i64 o1, .int .i64 o2, .int .i64 o3] ∧ L.g < w3.heap.size) := Lib.hid (by
          intro w3 hm3 hg3
          have hb3 := grown_but (tag := tag1) (P := fun m => m = (0, 4)) hg3 fun k hk => (by rw [← (show L.gb = k by injection hk)]; exact HFD.out.2.1)
          have hrow3 : QRow w3 lo 54 V2 t := HROW.out.kept fun g hg => hg3.block g (HROW.out.lt hg).2 (fun e => by
            have e1 : L.gb = g := by injection e with e; exact e.symm
            have e2 : gq = g := Option.some.inj (HB2.out.symm.trans hg)
            have e3 := HTG.out
            rw [e2, ← e1, HFD.out.2.1] at e3
            injection e3 with _ e3
            cases e3)
          obtain ⟨hH3, hS3⟩ := HHD.out.behind (x := tx) (l := t) (hb3.mono fun m h => Or.inl h) (fun _ _ => rfl) (HBh.put HFD.out HFB2.out (hb3.mono fun m h => Or.inl h) (fun _ _ => rfl) hm3 hrow3 (fun j hj => by
            have e2 : gq = j := Option.some.inj (HB2.out.symm.trans hj)
            rw [← e2]; exact HTG.out))
          exact ⟨hH3, hSb.trans hS3, hB7.drew.grown hg3 (fun k hk e => by have h7 := HGB.out; have h8 : L.gb = k := (by injection hk); omega), hH3.run.1.lt⟩)
        have HCK : Hid (∀ wx e, RPost way lo wx s2 ⟨L.g, L.gt, L.gw, L.gb, L.ga, xH, xW, xT, xV⟩ tag1 e wx → True) := Lib.hid (fun _ _ _ => trivial)
        by_cases hc1 : c = 1
        · subst hc1
          obtain rfl : nt = 0 := by omega
          simp only [if_true] at hV2
          clear hSb hB7
          go_still_tail 12, (by kernel_rfl)
          (with_reducible show wpList _ _ _ _ _ _)
          refine wpList_updateF rfl (.tmp 38) (.tmp 39) (.tmp 46) _ rfl HT.out.2.1 HT.out.2.2.1 HFD.out.1 (k := tx) (u := V2) (by rfl) (by rfl) (by rw [← hV2]; rfl) ?_
          intro w3 hm3 hg3
          obtain ⟨hH3, hS3, hB73, hgr3⟩ := HFIN.out w3 hm3 hg3
          have n0 := hB73.cellS (i := 0) (v := .int .i64 o1) rfl
          have n1 := hB73.cellS (i := 1) (v := .int .i64 o2) rfl
          have n2 := hB73.cellS (i := 2) (v := .int .i64 o3) rfl
          have CD2 := hide (unhide CD _ _ _ hH3)
          clear hm3 hg3 hH3 hB73 HFIN
          go_wp2_with fail
          refine (unhide CD2).mono ?_
          rintro e w9 hP
          obtain ⟨rfl, uH, uW, uT, uV, tag9, hH9, hS9⟩ := hP.get
          have hI9 : DrainI way lo n tx s' L w tag w9 m := ⟨s2, uH, uW, uT, uV, tag9, by omega, HR2.out, hH9, hS3.trans hS9⟩
          have HLM := Lib.hid (Nat.lt_of_le_of_lt ((least_spec ⟨m, hI9⟩).2 m hI9) (Nat.lt_succ_self m))
          clear hP CD2 hH9 hS9 hS3
          go_wp2
          go_roundw
          case rel => exact ⟨rfl, m, hI9⟩
          case measure => exact HLM.out
        · have hc2 : 1 < c := by omega
          rw [if_neg hc1] at hV2
          have hcb : ((c : Int) == 1) = false := by simp; omega
          clear hSb hB7
          go_still_tail 12, (by kernel_rfl)
          (with_reducible show wpList _ _ _ _ _ _)
          refine wpList_updateF rfl (.tmp 38) (.tmp 39) (.tmp 46) _ rfl HT.out.2.1 HT.out.2.2.1 HFD.out.1 (k := tx) (u := V2) (by rfl) (by rfl) (by rw [← hV2]; rfl) ?_
          intro w3 hm3 hg3
          obtain ⟨hH3, hS3, hB73, hgr3⟩ := HFIN.out w3 hm3 hg3
          have n0 := hB73.cellS (i := 0) (v := .int .i64 o1) rfl
          have n1 := hB73.cellS (i := 1) (v := .int .i64 o2) rfl
          have n2 := hB73.cellS (i := 2) (v := .int .i64 o3) rfl
          have CD2 := hide (unhide CD _ _ _ hH3)
          clear hm3 hg3 hH3 hB73 HFIN
          go_wp2_with fail
          refine (unhide CD2).mono ?_
          rintro e w9 hP
          obtain ⟨rfl, uH, uW, uT, uV, tag9, hH9, hS9⟩ := hP.get
          have hI9 : DrainI way lo n tx s' L w tag w9 m := ⟨s2, uH, uW, uT, uV, tag9, by omega, HR2.out, hH9, hS3.trans hS9⟩
          have HLM := Lib.hid (Nat.lt_of_le_of_lt ((least_spec ⟨m, hI9⟩).2 m hI9) (Nat.lt_succ_self m))
          clear hP CD2 hH9 hS9 hS3
          go_wp2
          go_roundw
          case rel => exact ⟨rfl, m, hI9⟩
          case measure => exact HLM.out
end Go.Proofs.YtmehghkpghbpjaaGreat


namespace Go.Proofs.YtmehghkpghbpjaaGreat
open Go.RowKit

/-- Where avoid stands, with so much fuel left. -/
def AvoidI (way : Int) (lo n : Nat) (tx : Int) (s' : RSt) (L : RLay) (w : World) (tag : Nat → Int × Nat) (wr : World) (m : Nat) : Prop :=
  ∃ s1 xH xW xT xV tag1, m ≤ n + 1 ∧ runJ way m (.avoid tx) s1 = some s' ∧ SHeap way lo wr s1 ⟨L.g, L.gt, L.gw, L.gb, L.ga, xH, xW, xT, xV⟩ tag1 ∧ StepS w wr tag tag1
theorem avoidE_pos {way : Int} {m : Nat} {tx : Int} {s s' : RSt} (h : runJ way m (.avoid tx) s = some s') : ∃ m', m = m' + 1 := by
  cases m with
  | zero => simp [runJ] at h
  | succ m => exact ⟨m, rfl⟩

set_option maxRecDepth 100000 in
set_option maxHeartbeats 2000000 in
theorem avoid_zero {lo n : Nat} (hA : AbortC 0 lo n) : AvoidC 0 lo (n + 1) := by
  intro tx s s' L tag w H hrun ht hv
  unfold runJ at hrun
  rw [if_pos rfl] at hrun
  have CR := hide (ring_any tx w H)
  obtain ⟨q0, _⟩ := H.cells
  have HH := Lib.hid H
  cases hr : rngF s.T tx
  · rw [hr, if_neg (by simp)] at hrun
    rw [hr] at CR
    injection hrun with hrun
    subst hrun
    clear H
    go_enter Tryz.func56, Tryz.ntmps56
    go_wp2_with fail
    refine (unhide CR).mono ?_
    rintro e w1 ⟨rfl, hb1⟩
    go_wp2
    go_ret
    exact ⟨rfl, L, tag, HH.out.below hb1, ⟨rfl, rfl, rfl, rfl, rfl⟩, StepS.below hb1⟩
  · rw [hr, if_pos rfl] at hrun
    rw [hr] at CR
    have CA := hide (fun w1 (hb : Below w.heap.size w w1) => hA tx s s' L tag w1 (HH.out.below hb) hrun ht hv)
    clear H
    go_enter Tryz.func56, Tryz.ntmps56
    go_wp2_with fail
    refine (unhide CR).mono ?_
    rintro e w1 ⟨rfl, hb1⟩
    go_wp2_with fail
    refine (unhide CA w1 hb1).mono ?_
    rintro e w9 hP
    obtain ⟨rfl, hP2⟩ := hP.after (StepS.below hb1) ⟨rfl, rfl, rfl, rfl, rfl⟩
    go_wp2
    go_ret
    exact ⟨rfl, hP2⟩

set_option maxRecDepth 100000 in
set_option maxHeartbeats 2000000 in
theorem avoid_one {lo n : Nat} (hA : AbortC 1 lo n) : AvoidC 1 lo (n + 1) := by
  intro tx s s' L tag w H hrun ht hv
  unfold runJ at hrun
  rw [if_neg (by decide), if_pos rfl] at hrun
  have CW := hide (forWhom_any tx w H)
  obtain ⟨q0, _⟩ := H.cells
  have HH := Lib.hid H
  cases hl : whomF s.T tx with
  | nil =>
    rw [hl] at hrun CW
    simp only at hrun
    injection hrun with hrun
    subst hrun
    clear H
    go_enter Tryz.func56, Tryz.ntmps56
    go_wp2_with fail
    refine (unhide CW).mono ?_
    rintro e w1 ⟨v, rfl, ho1, hb1⟩
    obtain ⟨A, c, rfl⟩ := own_slice ho1
    simp only [List.length_nil]
    go_wp2
    go_ret
    exact ⟨rfl, L, tag, HH.out.below hb1, ⟨rfl, rfl, rfl, rfl, rfl⟩, StepS.below hb1⟩
  | cons d r =>
    rw [hl] at hrun CW
    simp only at hrun
    obtain ⟨nr, hnr⟩ : ∃ nr, (d :: r).length = nr := ⟨_, rfl⟩
    have hnr0 : 0 < nr := by rw [← hnr]; simp
    have hnrb : ((nr : Int) == 0) = false := by simp; omega
    have hnrn : (nr == 0) = false := by simp; omega
    rw [hnr] at CW
    clear hnr
    by_cases hd : tx < d
    · rw [if_pos hd] at hrun
      injection hrun with hrun
      subst hrun
      clear H
      go_enter Tryz.func56, Tryz.ntmps56
      go_wp2_with fail
      refine (unhide CW).mono ?_
      rintro e w1 ⟨v, rfl, ho1, hb1⟩
      obtain ⟨A, c, rfl⟩ := own_slice ho1
      obtain ⟨b, off, x, he, hb, hx, z0⟩ := (rd_own ho1).int (k := 0) hnr0
      cases he
      obtain rfl : d = x := by simpa using hx
      rw [Nat.add_zero] at z0
      go_wp2
      go_ret
      exact ⟨rfl, L, tag, HH.out.below hb1, ⟨rfl, rfl, rfl, rfl, rfl⟩, StepS.below hb1⟩
    · rw [if_neg hd] at hrun
      have CA := hide (fun w1 (hb : Below w.heap.size w w1) => hA tx s s' L tag w1 (HH.out.below hb) hrun ht hv)
      clear H
      go_enter Tryz.func56, Tryz.ntmps56
      go_wp2_with fail
      refine (unhide CW).mono ?_
      rintro e w1 ⟨v, rfl, ho1, hb1⟩
      obtain ⟨A, c, rfl⟩ := own_slice ho1
      obtain ⟨b, off, x, he, hb, hx, z0⟩ := (rd_own ho1).int (k := 0) hnr0
      cases he
      obtain rfl : d = x := by simpa using hx
      rw [Nat.add_zero] at z0
      go_wp2_with fail
      refine (unhide CA w1 hb1).mono ?_
      rintro e w9 hP
      obtain ⟨rfl, hP2⟩ := hP.after (StepS.below hb1) ⟨rfl, rfl, rfl, rfl, rfl⟩
      go_wp2
      go_ret
      exact ⟨rfl, hP2⟩

set_option maxRecDepth 100000 in
set_option maxHeartbeats 4000000 in
theorem avoid_two {way : Int} (h0 : ¬ way = 0) (h1 : ¬ way = 1) {lo n : Nat} (hA : ∀ m, m ≤ n → AbortC way lo m) : AvoidC way lo (n + 1) := by
  intro tx s s' L tag w H hrun ht hv
  have HLE := Lib.hid (And.intro ht hv)
  have h0b : (way == 0) = false := by simpa using h0
  have h1b : (way == 1) = false := by simpa using h1
  have HW := Lib.hid (And.intro h0 h1)
  obtain ⟨q0, _⟩ := H.cells
  have hst : AvoidI way lo n tx s' L w tag w (n + 1) := by
    obtain ⟨g, gt, gw, gb, ga, vH, vW, vT, vV⟩ := L
    exact ⟨s, vH, vW, vT, vV, tag, Nat.le_refl _, hrun, H, StepS.refl _ _⟩
  clear ht hv hrun H h0 h1
  go_enter Tryz.func56, Tryz.ntmps56
  go_wp2
  go_loopw [4] (fun s4 wr => s4 = .nilIface ∧ ∃ m, AvoidI way lo n tx s' L w tag wr m) (fun _ wr => Classical.epsilon (fun m => AvoidI way lo n tx s' L w tag wr m ∧ ∀ k, AvoidI way lo n tx s' L w tag wr k → m ≤ k))
  case atStart => exact ⟨rfl, _, hst⟩
  case round =>
    clear hst
    obtain ⟨rfl, hex⟩ := hrel
    obtain ⟨h1, h2⟩ := least_spec hex
    have HLS := Lib.hid h2
    generalize (Classical.epsilon fun m => AvoidI way lo n tx s' L w tag wr m ∧ ∀ k, AvoidI way lo n tx s' L w tag wr k → m ≤ k) = m0 at *
    obtain ⟨s1, xH, xW, xT, xV, tag1, hm, hr1, hH, hS⟩ := h1
    obtain ⟨m, rfl⟩ := avoidE_pos hr1
    unfold runJ at hr1
    rw [if_neg HW.out.1, if_neg HW.out.2] at hr1
    have CW := hide (forWhom_any tx wr hH)
    have hl6 := whomF_len hH.tab.2.2.2 tx
    have hrg := Lib.hid (fun d hd => whomF_rng (tx := tx) (d := d) hH.tab.2.2.2 hd)
    have HH := Lib.hid hH
    clear hex h2
    obtain ⟨E, hE⟩ : ∃ E, whomF s1.T tx = E := ⟨_, rfl⟩
    rw [hE] at CW hl6 hrg hr1
    obtain ⟨nE, hnE⟩ : ∃ nE, E.length = nE := ⟨_, rfl⟩
    rw [hnE] at CW hl6
    clear hE hnE hH
    simp only at CW
    cases hf : E.find? (fun d => decide (tx < d)) with
    | none =>
      rw [hf] at hr1
      simp only at hr1
      injection hr1 with hr1
      subst hr1
      have HF := Lib.hid hf
      clear hf
      go_wp2_with fail
      refine (unhide CW).mono ?_
      rintro e w1 ⟨v, rfl, ho1, hb1⟩
      obtain ⟨A, c, rfl⟩ := own_slice ho1
      have CL := hide (least_any A nE c E tx w1 (rd_own ho1) (by omega))
      rw [HF.out] at CL
      simp only [Option.getD_none] at CL
      have hSS := hS.trans (StepS.below (tag := tag1) hb1)
      clear CW
      go_wp2_with fail
      refine (unhide CL).mono ?_
      rintro e w2 ⟨rfl, hb2⟩
      go_wp2
      go_ret
      exact ⟨rfl, _, tag1, (HH.out.below hb1).below hb2, ⟨rfl, rfl, rfl, rfl, rfl⟩, hSS.trans (StepS.below hb2)⟩
    | some d =>
      rw [hf] at hr1
      simp only at hr1
      cases hq : runJ way m (.abort d) s1 with
      | none => rw [hq] at hr1; cases hr1
      | some s2 =>
      rw [hq] at hr1
      simp only at hr1
      have HR2 := Lib.hid hr1
      have hlen2 := runJ_told _ _ _ _ hr1
      have CD := hide (fun w2 (h2 : SHeap way lo w2 s1 ⟨L.g, L.gt, L.gw, L.gb, L.ga, xH, xW, xT, xV⟩ tag1) => hA m (by omega) d s1 s2 _ tag1 w2 h2 hq (by have := HLE.out; omega) (by have := HLE.out; omega))
      have hd1 := hrg.out d (List.mem_of_find?_eq_some hf)
      have hdb : (d == 0) = false := by simp; omega
      have HF := Lib.hid hf
      clear hf hr1 hq hlen2
      go_wp2_with fail
      refine (unhide CW).mono ?_
      rintro e w1 ⟨v, rfl, ho1, hb1⟩
      obtain ⟨A, c, rfl⟩ := own_slice ho1
      have CL := hide (least_any A nE c E tx w1 (rd_own ho1) (by omega))
      rw [HF.out] at CL
      simp only [Option.getD_some] at CL
      have hSS := hS.trans (StepS.below (tag := tag1) hb1)
      clear CW
      go_wp2_with fail
      refine (unhide CL).mono ?_
      rintro e w2 ⟨rfl, hb2⟩
      have CD2 := hide (unhide CD w2 ((HH.out.below hb1).below hb2))
      have hS2 := hSS.trans (StepS.below (tag := tag1) hb2)
      clear CL
      go_wp2_with fail
      refine (unhide CD2).mono ?_
      rintro e w9 hP
      obtain ⟨rfl, uH, uW, uT, uV, tag9, hH9, hS9⟩ := hP.get
      have hI9 : AvoidI way lo n tx s' L w tag w9 m := ⟨s2, uH, uW, uT, uV, tag9, by omega, HR2.out, hH9, hS2.trans hS9⟩
      have HLM := Lib.hid (Nat.lt_of_le_of_lt ((least_spec ⟨m, hI9⟩).2 m hI9) (Nat.lt_succ_self m))
      clear hP CD2 hH9 hS9 hS2
      go_wp2
      go_roundw
      case rel => exact ⟨rfl, m, hI9⟩
      case measure => exact HLM.out
theorem avoid_any {way : Int} {lo n : Nat} (hA : ∀ m, m ≤ n → AbortC way lo m) : AvoidC way lo (n + 1) := by
  by_cases h0 : way = 0
  · subst h0; exact avoid_zero (hA n (Nat.le_refl _))
  · by_cases h1 : way = 1
    · subst h1; exact avoid_one (hA n (Nat.le_refl _))
    · exact avoid_two h0 h1 hA

/-- All of them, with whatever fuel. -/
structure JC (way : Int) (lo n : Nat) : Prop where
  free : FreeC way lo n
  drain : DrainC way lo n
  abort : AbortC way lo n
  avoid : AvoidC way lo n
  doo : DoC way lo n
theorem jc_any (way : Int) (lo : Nat) : ∀ n, JC way lo n := by
  intro n
  induction n using Nat.strongRecOn with
  | ind n ih =>
    cases n with
    | zero => exact ⟨fun tx s s' L tag w _ h => by simp [runJ] at h, fun tx s s' L tag w _ h => by simp [runJ] at h, fun tx s s' L tag w _ h => by simp [runJ] at h, fun tx s s' L tag w _ h => by simp [runJ] at h, fun tx s s' L tag w _ h => by simp [runJ] at h⟩
    | succ n =>
      have h : ∀ m, m ≤ n → JC way lo m := fun m hm => ih m (Nat.lt_succ_of_le hm)
      exact ⟨free_any fun m hm => (h m hm).drain, drain_any fun m hm => (h m hm).doo, abort_any (h n (Nat.le_refl _)).free, avoid_any fun m hm => (h m hm).abort, do_any (h n (Nat.le_refl _)).free (h n (Nat.le_refl _)).avoid⟩
end Go.Proofs.YtmehghkpghbpjaaGreat
