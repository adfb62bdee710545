
/-
  CONTRACTS of snap.AtOnce, snap.Deals.
  PLAIN: edges between deals, by a rule of two.
  CONTRACT of snap.Together: which deals ran at once.
-/
import Derived.Test.YtigmgeaimcglhaaDoorVD3
import Derived.Deep.RegionHeld3
import Derived.Test.YtigmgeaimcglhaaDoorVQ2
import Derived.Test.YtigmgeaimcglhaaDoorSortP
import Derived.Test.YtigmgeaimcglhaaDoorSortE

namespace Go.Proofs.YtigmgeaimcglhaaDoor
open Go.RowKit

set_option maxHeartbeats 2000000 in
theorem atOnce_any (ga gb : Nat) (xa ba ea xb bb eb : Int) (va vb vc ua ub uc : Value) (w : World) (ha : Blk w ga 56 [.int .i64 xa, .int .i64 ba, .int .i64 ea, va, vb, vc]) (hb : Blk w gb 56 [.int .i64 xb, .int .i64 bb, .int .i64 eb, ua, ub, uc]) :
    Calls Tryd.prog 33 #[.pointer (some ⟨ga, 0, none⟩), .pointer (some ⟨gb, 0, none⟩)] w fun e w' => e = .returned (.bool ((decide (eb < 0) || decide (ba < eb)) && (decide (ea < 0) || decide (bb < ea)))) ∧ ∃ m, w' = w.drewN m := by
  have e1 := ha.cellS (i := 1) (v := .int .i64 ba) rfl
  have e2 := ha.cellS (i := 2) (v := .int .i64 ea) rfl
  have f1 := hb.cellS (i := 1) (v := .int .i64 bb) rfl
  have f2 := hb.cellS (i := 2) (v := .int .i64 eb) rfl
  clear ha hb
  obtain ⟨p, hp⟩ : ∃ p : Bool, decide (eb < 0) = p := ⟨_, rfl⟩
  obtain ⟨q, hq⟩ : ∃ q : Bool, decide (ba < eb) = q := ⟨_, rfl⟩
  obtain ⟨r, hr⟩ : ∃ r : Bool, decide (ea < 0) = r := ⟨_, rfl⟩
  obtain ⟨t, ht⟩ : ∃ t : Bool, decide (bb < ea) = t := ⟨_, rfl⟩
  rw [hp, hq, hr, ht]
  cases p
  · cases q
    · go_enter Tryd.func33, Tryd.ntmps33
      go_wp2
      go_quiet (fail)
      go_wp2
      go_ret
      exact ⟨by simp, _, rfl⟩
    · cases r
      · cases t
        all_goals
          go_enter Tryd.func33, Tryd.ntmps33
          go_wp2
          go_quiet (fail)
          go_wp2
          go_ret
          exact ⟨by simp, _, rfl⟩
      · go_enter Tryd.func33, Tryd.ntmps33
        go_wp2
        go_quiet (fail)
        go_wp2
        go_ret
        exact ⟨by simp, _, rfl⟩
  · cases r
    · cases t
      all_goals
        go_enter Tryd.func33, Tryd.ntmps33
        go_wp2
        go_quiet (fail)
        go_wp2
        go_ret
        exact ⟨by simp, _, rfl⟩
    · go_enter Tryd.func33, Tryd.ntmps33
      go_wp2
      go_quiet (fail)
      go_wp2
      go_ret
      exact ⟨by simp, _, rfl⟩
/-- A deal of a state, by its number. -/
def dgd (s : VSt) (t : Int) : Dl := (dget s.ds t).getD ⟨t, 0, 0, [], [], []⟩
theorem doneD_dgd (s : VSt) : doneD s = s.dn.map (dgd s) := rfl
set_option maxHeartbeats 2000000 in
theorem deals_any (A : Option Addr) (n c : Nat) (h : List HOp) (w : World) (hr : Rd w w.heap.size 3 A n (cellsH h)) (hok : okH h) :
    Calls Tryd.prog 32 #[.slice A n c] w fun e w' => ∃ L tag, e = .returned L.vd ∧ VHeap (vT 3 3) w.heap.size w' (playV snapR h) L tag ∧ VOk 40 (playV snapR h) ∧ Below w.heap.size w w' := by
  have hn : n ≤ 40 := by rw [← hr.hlen]; exact okH_len hok
  have CP := hide (vplay_any (tk := 3) (tl := 3) A n c h snapR (fun s d i => Nat.le_succ _) 36 37 #[] #[] #[] #[] w w none (.inl ⟨rfl, rfl⟩) (Below.refl _ _) hr hn (okH_right hok) call_snapSee call_snapMay
    (fun s L tag w2 d i H hk hd h1 h2 _ => (snapSee_any w2 H hk hd h1 h2 _).mono fun e w' ⟨he, hb⟩ => ⟨he, L, tag, Looked.none H hb⟩)
    (fun s L tag w2 d H hk hd _ => (snapMay_any w2 H hk (by omega) hd).mono fun e w' ⟨he, hb⟩ => ⟨he, hb⟩))
  generalize playV snapR h = s at *
  clear hr hok
  go_enter Tryd.func32, Tryd.ntmps32
  go_wp2_with fail
  refine (unhide CP).mono ?_
  rintro e w2 ⟨L, tag, rfl, hP2, hk2⟩
  obtain ⟨Ad, cd, hvd⟩ := own_slice hP2.heap.done
  have HP := hide hP2
  have HK := Lib.hid hk2
  rw [hvd]
  clear hP2 hk2 CP
  go_wp2
  go_ret
  exact ⟨L, tag, by rw [hvd]; rfl, (unhide HP).heap, ⟨by have := HK.out.dn; omega, HK.out.last, by have := HK.out.looks; omega, fun d hd => by
    have h := HK.out.deals d hd
    exact ⟨by have := h.seen; omega, by have := h.wrote; omega, h.items, h.snap, h.tx, ⟨h.began.1, by have := h.began.2; omega⟩, ⟨h.ended.1, by have := h.ended.2; omega⟩⟩⟩, (unhide HP).below⟩
end Go.Proofs.YtigmgeaimcglhaaDoor


namespace Go.Proofs.YtigmgeaimcglhaaDoor
open Go.RowKit

def rawP (p : Dl → Dl → Bool) (ds : List Dl) : List (Int × Int) := ds.flatMap fun a => (ds.filter (p a)).map fun b => (a.tx, b.tx)
def togD (a b : Dl) : Bool := decide (a.tx < b.tx) && atOnceD a b
theorem filt_snoc {α β : Type} {ds : List α} {j : Nat} {e : α} (he : ds[j]? = some e) (p : α → Bool) (g : α → β) : ((ds.take (j + 1)).filter p).map g = ((ds.take j).filter p).map g ++ (if p e then [g e] else []) := by
  rw [List.take_add_one, he, List.filter_append, List.map_append]
  congr 1
  show List.map g (List.filter p [e]) = _
  cases h : p e <;> simp [h]
theorem flat_snoc {α β : Type} {ds : List α} {j : Nat} {e : α} (he : ds[j]? = some e) (f : α → List β) : (ds.take (j + 1)).flatMap f = (ds.take j).flatMap f ++ f e := by
  rw [List.take_add_one, he]; simp
theorem mem_rawP {p : Dl → Dl → Bool} {ds : List Dl} {x : Int × Int} : x ∈ rawP p ds ↔ ∃ a ∈ ds, ∃ b ∈ ds, p a b = true ∧ x = (a.tx, b.tx) := by
  unfold rawP
  rw [List.mem_flatMap]
  constructor
  · rintro ⟨a, ha, h⟩
    obtain ⟨b, hb, rfl⟩ := List.mem_map.1 h
    obtain ⟨hb, hp⟩ := List.mem_filter.1 hb
    exact ⟨a, ha, b, hb, hp, rfl⟩
  · rintro ⟨a, ha, b, hb, hp, rfl⟩
    exact ⟨a, ha, List.mem_map.2 ⟨b, List.mem_filter.2 ⟨hb, hp⟩, rfl⟩⟩
/-- Who is between, of edges. -/
def pivL (E : List (Int × Int)) : List Int := [1, 2, 3, 4, 5, 6].filter fun t => (E.any fun e => decide (e.2 = t)) && E.any fun e => decide (e.1 = t)
theorem pivL_anti (ds : List Dl) : pivL (sortS ltE (rawP antiD ds)) = pivsD ds := by
  unfold pivL pivsD
  congr 1
  funext t
  unfold pivB
  have h1 : ((sortS ltE (rawP antiD ds)).any fun e => decide (e.2 = t)) = ds.any fun a => ds.any fun b => antiD a b && decide (b.tx = t) := by
    rw [Bool.eq_iff_iff, List.any_eq_true, List.any_eq_true]
    constructor
    · rintro ⟨x, hx, h⟩
      obtain ⟨a, ha, b, hb, hp, rfl⟩ := mem_rawP.1 (mem_sortS.1 hx)
      exact ⟨a, ha, List.any_eq_true.2 ⟨b, hb, by rw [hp]; exact h⟩⟩
    · rintro ⟨a, ha, h⟩
      obtain ⟨b, hb, h⟩ := List.any_eq_true.1 h
      rw [Bool.and_eq_true] at h
      exact ⟨(a.tx, b.tx), mem_sortS.2 (mem_rawP.2 ⟨a, ha, b, hb, h.1, rfl⟩), h.2⟩
  have h2 : ((sortS ltE (rawP antiD ds)).any fun e => decide (e.1 = t)) = ds.any fun a => ds.any fun b => antiD a b && decide (a.tx = t) := by
    rw [Bool.eq_iff_iff, List.any_eq_true, List.any_eq_true]
    constructor
    · rintro ⟨x, hx, h⟩
      obtain ⟨a, ha, b, hb, hp, rfl⟩ := mem_rawP.1 (mem_sortS.1 hx)
      exact ⟨a, ha, List.any_eq_true.2 ⟨b, hb, by rw [hp]; exact h⟩⟩
    · rintro ⟨a, ha, h⟩
      obtain ⟨b, hb, h⟩ := List.any_eq_true.1 h
      rw [Bool.and_eq_true] at h
      exact ⟨(a.tx, b.tx), mem_sortS.2 (mem_rawP.2 ⟨a, ha, b, hb, h.1, rfl⟩), h.2⟩
  rw [h1, h2]
end Go.Proofs.YtigmgeaimcglhaaDoor


namespace Go.Proofs.YtigmgeaimcglhaaDoor
open Go.RowKit

set_option maxRecDepth 100000 in
set_option maxHeartbeats 4000000 in
theorem together_any (A : Option Addr) (n c : Nat) (h : List HOp) (w : World) (hr : Rd w w.heap.size 3 A n (cellsH h)) (hm : n ≤ 6000000000000) (hok : okH h) :
    Calls Tryd.prog 12 #[.slice A n c] w fun e w' => ∃ A' m c', e = .returned (.tuple #[.slice A' m c', .nilIface]) ∧ Rd w' w'.heap.size 2 A' m (dcells (sortS ltE (rawP togD (doneD (playV snapR h))))) ∧ m ≤ 1600 ∧ Below w.heap.size w w' := by
  have CR := hide (right_h A n c h w hr hm)
  rw [show (checkF h).2 = 0 from hok] at CR
  have CD := hide (fun w1 (hb : Below w.heap.size w w1) => deals_any A n c h w1 ((hr.below hb).more hb.size) hok)
  generalize playV snapR h = s at *
  clear hr hok
  go_enter Tryd.func12, Tryd.ntmps12
  go_wp2_with fail
  refine (unhide CR).mono ?_
  rintro e w1 ⟨rfl, hb1⟩
  rw [errV_zero]
  go_wp2_with fail
  refine (unhide CD w1 hb1).mono ?_
  rintro e w2 ⟨L, tag, rfl, H2, hk2, hb2⟩
  have hbw2 := hb1.trans (hb2.mono hb1.size)
  obtain ⟨Ad, cd, hvd⟩ := own_slice H2.done
  have HDn := hide (fun w' (hb : Below w2.heap.size w2 w') => (show Rd w' w2.heap.size 1 Ad s.dn.length (s.dn.map (ptrD L)) from ((rd_own (by rw [← hvd]; exact H2.done)).below hb)))
  have HDl := hide (fun w' (hb : Below w2.heap.size w2 w') t (ht : t ∈ s.dn) => (show Blk w' (L.g t) 56 [.int .i64 t, .int .i64 (dgd s t).began, .int .i64 (dgd s t).ended, L.vs t, L.vw t, L.vp t] ∧ L.g t < w2.heap.size ∧ (dgd s t).tx = t from by
    obtain ⟨d, hd, rfl⟩ := List.mem_map.1 (H2.sub t ht)
    have hg : dgd s d.tx = d := by unfold dgd; rw [dget_mem H2.nodup hd]; rfl
    rw [hg]
    have hB := (H2.deals d hd).blk
    exact ⟨hB.below hb hB.lt, hB.lt, rfl⟩))
  have hdl : s.dn.length ≤ 40 := hk2.dn
  have HRW : Hid (rawP togD (doneD s) = (s.dn.map (dgd s)).flatMap fun a => ((s.dn.map (dgd s)).filter (togD a)).map fun b => (a.tx, b.tx)) := Lib.hid rfl
  rw [hvd]
  clear CR CD H2 hk2 hvd hb1 hb2
  go_wp2
  go_loopw [6, 20] (fun s6 s20 wr => ∃ (k m : Nat), k ≤ s.dn.length ∧ s20 = .int .i64 k ∧ m ≤ k * s.dn.length ∧ wr.ownsRow w2.heap.size 42 2 s6 m (dcells (((s.dn.map (dgd s)).take k).flatMap fun a => ((s.dn.map (dgd s)).filter (togD a)).map fun b => (a.tx, b.tx))) ∧ Below w2.heap.size w2 wr) (fun _ s20 _ => s.dn.length - (intOf s20).toNat)
  case atStart => exact ⟨0, 0, Nat.zero_le _, rfl, Nat.zero_le _, World.ownsRow_nil _ _ _ _, Below.refl _ _⟩
  case round =>
    obtain ⟨k, m, hk, rfl, hmk, ho6, hbw⟩ := hrel
    obtain ⟨wo, rfl⟩ : ∃ wo : World, wo = wr := ⟨_, rfl⟩
    obtain ⟨A6, c6, rfl⟩ := own_slice ho6
    by_cases hlt : k < s.dn.length
    · obtain ⟨b, off, t, he, hb, ht, c0⟩ := (unhide HDn wo hbw).ptr (k := k) hlt
      cases he
      have htm := List.mem_of_getElem? ht
      have hDk : (s.dn.map (dgd s))[k]? = some (dgd s t) := by rw [List.getElem?_map, ht]; rfl
      have HTX := Lib.hid (unhide HDl wo hbw t htm).2.2
      have HTG := Lib.hid (unhide HDl wo hbw t htm).2.1
      have HFL : Hid (((s.dn.map (dgd s)).take (k + 1)).flatMap (fun a => ((s.dn.map (dgd s)).filter (togD a)).map fun b => (a.tx, b.tx)) = ((s.dn.map (dgd s)).take k).flatMap (fun a => ((s.dn.map (dgd s)).filter (togD a)).map fun b => (a.tx, b.tx)) ++ ((s.dn.map (dgd s)).filter (togD (dgd s t))).map fun b => ((dgd s t).tx, b.tx)) := Lib.hid (flat_snoc hDk _)
      have HDT := hide (fun w' (hb : Below w2.heap.size w2 w') => (unhide HDl w' hb t htm).1)
      have hmb : k * s.dn.length ≤ 1600 := Nat.le_trans (Nat.mul_le_mul (Nat.le_trans hk hdl) hdl) (by decide)
      have hmb2 : (k + 1) * s.dn.length = k * s.dn.length + s.dn.length := Nat.succ_mul _ _
      clear ht hDk htm
      go_wp2
      go_loopw [6, 26] (fun s6 s26 wr => ∃ (j q : Nat), j ≤ s.dn.length ∧ s26 = .int .i64 j ∧ q ≤ m + j ∧ wr.ownsRow w2.heap.size 42 2 s6 q (dcells (((s.dn.map (dgd s)).take k).flatMap (fun a => ((s.dn.map (dgd s)).filter (togD a)).map fun b => (a.tx, b.tx)) ++ ((((s.dn.map (dgd s)).take j).filter (togD (dgd s t))).map fun b => ((dgd s t).tx, b.tx)))) ∧ Below w2.heap.size w2 wr) (fun _ s26 _ => s.dn.length - (intOf s26).toNat)
      case atStart => exact ⟨0, m, Nat.zero_le _, rfl, Nat.le_refl _, by simpa using ho6, hbw⟩
      case round =>
        clear ho6 hbw
        obtain ⟨j, q, hj, rfl, hq, ho7, hbw7⟩ := hrel
        obtain ⟨A7, c7, rfl⟩ := own_slice ho7
        by_cases hlt2 : j < s.dn.length
        · obtain ⟨b2, off2, u, he2, hb2', hu, d0⟩ := (unhide HDn wr hbw7).ptr (k := j) hlt2
          cases he2
          have hum := List.mem_of_getElem? hu
          have hDj : (s.dn.map (dgd s))[j]? = some (dgd s u) := by rw [List.getElem?_map, hu]; rfl
          obtain ⟨hBu, hgu, hux⟩ := unhide HDl wr hbw7 u hum
          have hBt := unhide HDT wr hbw7
          have hgt := (unhide HDl wr hbw7 u hum).2.1
          have HFI := Lib.hid (filt_snoc hDj (togD (dgd s t)) fun b => ((dgd s t).tx, b.tx))
          have HTU : Hid (togD (dgd s t) (dgd s u) = (decide (t < u) && ((decide ((dgd s u).ended < 0) || decide ((dgd s t).began < (dgd s u).ended)) && (decide ((dgd s t).ended < 0) || decide ((dgd s u).began < (dgd s t).ended))))) := Lib.hid (by unfold togD atOnceD; rw [HTX.out, hux])
          have HUX := Lib.hid hux
          have x0 := hBt.cellS (i := 0) (v := .int .i64 t) rfl
          have y0 := hBu.cellS (i := 0) (v := .int .i64 u) rfl
          have CA := hide (fun mm => atOnce_any (L.g t) (L.g u) t (dgd s t).began (dgd s t).ended u (dgd s u).began (dgd s u).ended _ _ _ _ _ _ (wr.drewN mm) (show Blk (wr.drewN mm) _ _ _ from hBt) (show Blk (wr.drewN mm) _ _ _ from hBu))
          have hgT := hBt.lt
          have hgU := hBu.lt
          obtain ⟨qq, hqq⟩ : ∃ qq : Bool, ((decide ((dgd s u).ended < 0) || decide ((dgd s t).began < (dgd s u).ended)) && (decide ((dgd s t).ended < 0) || decide ((dgd s u).began < (dgd s t).ended))) = qq := ⟨_, rfl⟩
          rw [hqq] at CA
          have HTV : Hid (togD (dgd s t) (dgd s u) = (decide (t < u) && qq)) := Lib.hid (by rw [HTU.out, hqq])
          clear hu hum hDj hux hqq HTU
          have hskip : togD (dgd s t) (dgd s u) = false → (((s.dn.map (dgd s)).take (j + 1)).filter (togD (dgd s t))).map (fun b => ((dgd s t).tx, b.tx)) = (((s.dn.map (dgd s)).take j).filter (togD (dgd s t))).map (fun b => ((dgd s t).tx, b.tx)) := fun e => by rw [HFI.out, e]; simp
          have HSK := Lib.hid hskip
          clear hskip
          by_cases htu : t < u
          · have htd : decide (t < u) = true := decide_eq_true htu
            cases qq
            · have HNX := Lib.hid (HSK.out (by rw [HTV.out, htd]; rfl))
              go_upto_region 12 with fail
              go_quiet ((go_at_call 33; exact Calls.quiet_of (unhide CA _)))
              go_wp2
              go_roundw
              case rel => exact ⟨j + 1, q, by omega, by go_num, by omega, by rw [HNX.out]; exact ho7, below_drewN hbw7 _⟩
              case measure => simp [intOf]; omega
            · have HNX : Hid ((((s.dn.map (dgd s)).take (j + 1)).filter (togD (dgd s t))).map (fun b => ((dgd s t).tx, b.tx)) = (((s.dn.map (dgd s)).take j).filter (togD (dgd s t))).map (fun b => ((dgd s t).tx, b.tx)) ++ [(t, u)]) := Lib.hid (by rw [HFI.out, HTV.out, htd, HTX.out, HUX.out]; rfl)
              go_upto_region 12 with fail
              go_quiet ((go_at_call 33; exact Calls.quiet_of (unhide CA _)))
              clear CA
              go_upto_region 13 with fail
              obtain ⟨wd, hW⟩ : ∃ wd, wr.drewN nq = wd := ⟨_, rfl⟩
              rw [hW]
              have hBt' : Blk wd (L.g t) 56 [.int .i64 t, .int .i64 (dgd s t).began, .int .i64 (dgd s t).ended, L.vs t, L.vw t, L.vp t] := by rw [← hW]; exact hBt
              have hBu' : Blk wd (L.g u) 56 [.int .i64 u, .int .i64 (dgd s u).began, .int .i64 (dgd s u).ended, L.vs u, L.vw u, L.vp u] := by rw [← hW]; exact hBu
              have ho8 : wd.ownsRow w2.heap.size 42 2 (.slice A7 q c7) q (dcells (((s.dn.map (dgd s)).take k).flatMap (fun a => ((s.dn.map (dgd s)).filter (togD a)).map fun b => (a.tx, b.tx)) ++ ((((s.dn.map (dgd s)).take j).filter (togD (dgd s t))).map fun b => ((dgd s t).tx, b.tx)))) := by rw [← hW]; exact ho7
              have hbw8 : Below w2.heap.size w2 wd := by rw [← hW]; exact below_drewN hbw7 _
              have hz8 := hbw8.size
              have hgT2 := HTG.out
              have e0 := hBt'.cellS (i := 0) (v := .int .i64 t) rfl
              have e1 := hBu'.cellS (i := 0) (v := .int .i64 u) rfl
              have hTd : L.g t < wd.heap.size := by omega
              have hUd : L.g u < wd.heap.size := by omega
              have ho8d : wd.drew.ownsRow w2.heap.size 42 2 (.slice A7 q c7) q (dcells (((s.dn.map (dgd s)).take k).flatMap (fun a => ((s.dn.map (dgd s)).filter (togD a)).map fun b => (a.tx, b.tx)) ++ ((((s.dn.map (dgd s)).take j).filter (togD (dgd s t))).map fun b => ((dgd s t).tx, b.tx)))) := ho8
              have oneX := oneD [(t, u)]
              clear hW ho7 ho8 hbw7 x0 y0 hBt hBu hBt' hBu' hgT hgU
              go_region_held3 (fun w' => w'.cell? ⟨L.g t, 0, none⟩ = some (.int .i64 t) ∧ w'.cell? ⟨L.g u, 0, none⟩ = some (.int .i64 u)) (first | exact hcell9 | exact ⟨e0, e1⟩ | exact ⟨(World.cell?_alloc_lt wd _ _ hTd).trans e0, (World.cell?_alloc_lt wd _ _ hUd).trans e1⟩ | go_keep)
                (first
                  | ((refine step_app rfl (.tmp 44) (.tmp 54) _ rfl w2.heap.size slt_edge (n := q) (m := 1) (news := dcells [(t, u)]) rfl (own_alloc ho8d _) rfl (rd_new' _ _ (dcells [(t, u)]) (by simp) rfl) oneX (by omega) (by simp; omega) ?_; intro v9 w9 hown9 hg9 hb9; have hcell9 : w9.cell? ⟨L.g t, 0, none⟩ = some (.int .i64 t) ∧ w9.cell? ⟨L.g u, 0, none⟩ = some (.int .i64 u) := ⟨(hb9.cell (p := ⟨L.g t, 0, none⟩) hgT2).trans ((World.cell?_alloc_lt wd _ _ hTd).trans e0), (hb9.cell (p := ⟨L.g u, 0, none⟩) hgu).trans ((World.cell?_alloc_lt wd _ _ hUd).trans e1)⟩)))
              rw [← dcells_append, List.append_assoc, ← HNX.out] at hown9
              have hb10 := (hbw8.drew.alloc hz8 (.cells (dcells [(t, u)]).toArray 42)).trans hb9
              go_wp2
              go_roundw
              case rel => exact ⟨j + 1, q + 1, by omega, by go_num, by omega, hown9, hb10⟩
              case measure => simp [intOf]; omega
          · have htd : decide (t < u) = false := decide_eq_false htu
            have HNX := Lib.hid (HSK.out (by rw [HTV.out, htd]; rfl))
            go_upto_region 12 with fail
            go_quiet (fail)
            go_wp2
            go_roundw
            case rel => exact ⟨j + 1, q, by omega, by go_num, by omega, by rw [HNX.out]; exact ho7, below_drewN hbw7 _⟩
            case measure => simp [intOf]; omega
        · have HT : Hid ((s.dn.map (dgd s)).take j = s.dn.map (dgd s)) := Lib.hid (List.take_of_length_le (by rw [List.length_map]; omega))
          have ho9 : wr.ownsRow w2.heap.size 42 2 (.slice A7 q c7) q (dcells (((s.dn.map (dgd s)).take (k + 1)).flatMap (fun a => ((s.dn.map (dgd s)).filter (togD a)).map fun b => (a.tx, b.tx)))) := by rw [HFL.out]; rw [HT.out] at ho7; exact ho7
          go_wp2
          go_roundw
          case rel => exact ⟨k + 1, q, by omega, by go_num, by omega, ho9, hbw7⟩
          case measure => simp [intOf]; omega
    · have HT : Hid ((s.dn.map (dgd s)).take k = s.dn.map (dgd s)) := Lib.hid (List.take_of_length_le (by rw [List.length_map]; omega))
      rw [HT.out, ← HRW.out] at ho6
      have hm2 : m ≤ 1600 := Nat.le_trans hmk (Nat.le_trans (Nat.mul_le_mul (Nat.le_trans hk hdl) hdl) (by decide))
      have C3 := hide (sortedE_own ho6 hbw.size (by omega))
      go_wp2_with fail
      refine (unhide C3).mono ?_
      rintro e w4 ⟨m4, rfl, ho4, hm4, hb4⟩
      have hbz := hbw.trans hb4
      have HO4 := hide (rd_own ho4)
      go_wp2
      go_ret2
      exact ⟨_, _, _, rfl, unhide HO4, by omega, hbw2.trans (hbz.mono hbw2.size)⟩
theorem together_no (A : Option Addr) (n c : Nat) (h : List HOp) (w : World) (hr : Rd w w.heap.size 3 A n (cellsH h)) (hm : n ≤ 6000000000000) (hno : ¬ okH h) :
    Calls Tryd.prog 12 #[.slice A n c] w fun e w' => e = .returned (.tuple #[.slice none 0 0, errV (checkF h).2]) ∧ Below w.heap.size w w' := by
  have CR := hide (right_h A n c h w hr hm)
  rw [ne_errV (show (checkF h).2 ≠ 0 from hno)] at CR ⊢
  generalize (checkF h).2 = ev at *
  clear hno hr
  go_enter Tryd.func12, Tryd.ntmps12
  go_wp2_with fail
  refine (unhide CR).mono ?_
  rintro e w1 ⟨rfl, hb1⟩
  go_wp2
  go_ret2
  exact ⟨rfl, hb1⟩
end Go.Proofs.YtigmgeaimcglhaaDoor
