
/-
  CONTRACTS of danger.edges, danger.pivots: who is between.
  CONTRACTS of danger.may, Edges, Pivots, Run.
-/
import Derived.Test.YtfmdeahblaikoaaGreatDoorValidRun
import Derived.Test.YtfmdeahblaikoaaGreatDoorVD1
import Derived.Test.YtfmdeahblaikoaaGreatDoorSortE
import Derived.Test.YtfmdeahblaikoaaGreatDoorGraph
import Derived.LaidEqlPtr
import Derived.Lib.Builder

namespace Go.Proofs.YtfmdeahblaikoaaGreatDoor
open Go.RowKit

/-! ### Pointers. -/
theorem run_neq_ptr_other {P : Program} (w : World) {tp te : TypeId} {j : TypeInfo} {a b : Addr} {ca cb : Array Value} {ta tb : TypeId} (hp : P.underlying tp = some (.pointer te)) (hte : P.info? te = some j) (hsz : j.size ≠ 0)
    (hne : a ≠ b) (ha : w.heap[a.block]? = some (.cells ca ta (0, 0))) (hb : w.heap[b.block]? = some (.cells cb tb (0, 0))) :
    (binOp .neq tp (.pointer (some a)) (.pointer (some b))).run P w = .ok (.bool true) w := by
  have h : ∀ d : Nat, (Op.equalIn (d + 1) tp (.pointer (some a)) (.pointer (some b))).run P w = .ok false w := fun d => by
    simp [Op.equalIn, run_underlying hp, sizeOf, typeInfo, hte, hsz, run_sameAddr_other w hne ha hb]
  simp only [binOp]
  simp [Op.equal, Op.maxDepth, h 9999]
theorem info_deal : ∃ j, Tryz.prog.info? 85 = some j ∧ j.size ≠ 0 := by
  have h : (Tryz.prog.info? 85).map (fun i => i.size) = some 6 := by kernel_rfl
  cases hi : Tryz.prog.info? 85 with
  | none => rw [hi] at h; cases h
  | some j =>
    rw [hi] at h
    have h2 : j.size = 6 := Option.some.inj h
    exact ⟨j, rfl, by omega⟩
theorem neq_deal_same (w : World) (g : Nat) : (binOp .neq 81 (.pointer (some ⟨g, 0, none⟩)) (.pointer (some ⟨g, 0, none⟩))).run Tryz.prog w = .ok (.bool false) w := by
  obtain ⟨j, h1, _⟩ := info_deal
  exact Lib.run_neq_ptr_same w _ Tryz.underlying81 h1
theorem neq_deal_other {w : World} {g g' : Nat} {cs cs' : List Value} (h : Blk w g 85 cs) (h' : Blk w g' 85 cs') (hne : g ≠ g') : (binOp .neq 81 (.pointer (some ⟨g, 0, none⟩)) (.pointer (some ⟨g', 0, none⟩))).run Tryz.prog w = .ok (.bool true) w := by
  obtain ⟨j, h1, h2⟩ := info_deal
  exact run_neq_ptr_other w Tryz.underlying81 h1 h2 (fun e => hne (by injection e)) h h'

/-! ### edges. -/
set_option maxRecDepth 100000 in
set_option maxHeartbeats 4000000 in
theorem edges_any {tk tl : TypeId} {lo : Nat} {s : VSt} {L : VLay} {tag : Nat → Int × Nat} {k0 : Nat} (w : World) (H : VHeap (vT tk tl) lo w s L tag) (hk : VOk k0 s) (hk0 : k0 ≤ 41) (A : Option Addr) (n c : Nat) (ts : List Int) (hr : Rd w w.heap.size 1 A n (ts.map (ptrD L))) (hsub : ∀ t ∈ ts, t ∈ s.ds.map (·.tx)) (hn : n ≤ 60) :
    Calls Tryz.prog 22 #[.slice A n c] w fun e w' => ∃ A' m c', e = .returned (.slice A' m c') ∧ Rd w' w'.heap.size 2 A' m (dcells (sortS ltE (rawP antiD (ts.map (dgd s))))) ∧ m ≤ 3600 ∧ Below w.heap.size w w' := by
  have hlen : ts.length = n := hr.plen
  have HRd := hide (fun w' (hb : Below w.heap.size w w') => (show Rd w' w.heap.size 1 A n (ts.map (ptrD L)) from hr.below hb))
  have HDl := hide (fun w' (hb : Below w.heap.size w w') t (ht : t ∈ ts) => (show Blk w' (L.g t) 85 [.int .i64 t, .int .i64 (dgd s t).began, .int .i64 (dgd s t).ended, L.vs t, L.vw t, L.vp t] ∧ L.g t < w.heap.size ∧ (dgd s t).tx = t ∧ w'.ownsRow lo 3 1 (L.vw t) (dgd s t).wrote.length (cellsI (dgd s t).wrote) ∧ (dgd s t).wrote.length ≤ 41 ∧ dgd s t ∈ s.ds from by
    obtain ⟨d, hd, rfl⟩ := List.mem_map.1 (hsub t ht)
    have hg : dgd s d.tx = d := by unfold dgd; rw [dget_mem H.nodup hd]; rfl
    rw [hg]
    have hD := (H.below hb).deals d hd
    exact ⟨hD.blk, (H.deals d hd).blk.lt, rfl, hD.wrote, by have := (hk.deals d hd).wrote; omega, hd⟩))
  have HNE := Lib.hid (fun t u (ht : t ∈ ts) (hu : u ∈ ts) (hne : t ≠ u) => show L.g t ≠ L.g u from fun e => by
    obtain ⟨d, hd, rfl⟩ := List.mem_map.1 (hsub t ht)
    obtain ⟨d2, hd2, rfl⟩ := List.mem_map.1 (hsub u hu)
    have h1 := (H.deals d hd).blkM
    have h2 := (H.deals d2 hd2).blkM
    rw [e, h2] at h1
    injection h1 with h1 _
    exact hne h1.symm)
  have HRead := hide (fun w' (hb : Below w.heap.size w w') t (ht : t ∈ ts) (i : Int) => (show Calls Tryz.prog 36 #[.pointer (some ⟨L.g t, 0, none⟩), .int .i64 i] w' fun e w'' => e = .returned (.bool (readD (dgd s t) i)) ∧ Below w'.heap.size w' w'' from by
    obtain ⟨d, hd, rfl⟩ := List.mem_map.1 (hsub t ht)
    have hg : dgd s d.tx = d := by unfold dgd; rw [dget_mem H.nodup hd]; rfl
    rw [hg]
    exact read_any w' (H.below hb) hk (by omega) hd i))
  clear hr hsub H hk
  go_enter Tryz.func22, Tryz.ntmps22
  go_wp2
  go_loopw [3, 10] (fun s3 s10 wr => ∃ (k m : Nat), k ≤ n ∧ s10 = .int .i64 k ∧ m ≤ k * n ∧ wr.ownsRow w.heap.size 54 2 s3 m (dcells (((ts.map (dgd s)).take k).flatMap fun a => ((ts.map (dgd s)).filter (antiD a)).map fun b => (a.tx, b.tx))) ∧ Below w.heap.size w wr) (fun _ s10 _ => n - (intOf s10).toNat)
  case atStart => exact ⟨0, 0, Nat.zero_le _, rfl, Nat.zero_le _, World.ownsRow_nil _ _ _ _, Below.refl _ _⟩
  case round =>
    obtain ⟨k, m, hk, rfl, hmk, ho6, hbw⟩ := hrel
    obtain ⟨wo, rfl⟩ : ∃ wo : World, wo = wr := ⟨_, rfl⟩
    obtain ⟨A6, c6, rfl⟩ := own_slice ho6
    by_cases hlt : k < n
    · obtain ⟨b, off, t, he, hb, ht, c0⟩ := (unhide HRd wo hbw).ptr (k := k) hlt
      cases he
      have htm := List.mem_of_getElem? ht
      have hDk : (ts.map (dgd s))[k]? = some (dgd s t) := by rw [List.getElem?_map, ht]; rfl
      have HTX := Lib.hid (unhide HDl wo hbw t htm).2.2.1
      have HTG := Lib.hid (unhide HDl wo hbw t htm).2.1
      have HFL : Hid (((ts.map (dgd s)).take (k + 1)).flatMap (fun a => ((ts.map (dgd s)).filter (antiD a)).map fun b => (a.tx, b.tx)) = ((ts.map (dgd s)).take k).flatMap (fun a => ((ts.map (dgd s)).filter (antiD a)).map fun b => (a.tx, b.tx)) ++ ((ts.map (dgd s)).filter (antiD (dgd s t))).map fun b => ((dgd s t).tx, b.tx)) := Lib.hid (flat_snoc hDk _)
      have HDT := hide (fun w' (hb : Below w.heap.size w w') => (unhide HDl w' hb t htm).1)
      have hmb : k * n ≤ 3600 := Nat.le_trans (Nat.mul_le_mul (Nat.le_trans hk hn) hn) (by decide)
      have hmb2 : (k + 1) * n = k * n + n := Nat.succ_mul _ _
      have HTM := Lib.hid htm
      clear ht hDk htm
      go_wp2
      go_loopw [3, 16] (fun s3 s16 wr => ∃ (j q : Nat), j ≤ n ∧ s16 = .int .i64 j ∧ q ≤ m + j ∧ wr.ownsRow w.heap.size 54 2 s3 q (dcells (((ts.map (dgd s)).take k).flatMap (fun a => ((ts.map (dgd s)).filter (antiD a)).map fun b => (a.tx, b.tx)) ++ ((((ts.map (dgd s)).take j).filter (antiD (dgd s t))).map fun b => ((dgd s t).tx, b.tx)))) ∧ Below w.heap.size w wr) (fun _ s16 _ => n - (intOf s16).toNat)
      case atStart => exact ⟨0, m, Nat.zero_le _, rfl, Nat.le_refl _, by simpa using ho6, hbw⟩
      case round =>
        clear ho6 hbw
        obtain ⟨j, q, hj, rfl, hq, ho7, hbw7⟩ := hrel
        obtain ⟨A7, c7, rfl⟩ := own_slice ho7
        by_cases hlt2 : j < n
        · obtain ⟨b2, off2, u, he2, hb2', hu, d0⟩ := (unhide HRd wr hbw7).ptr (k := j) hlt2
          cases he2
          have hum := List.mem_of_getElem? hu
          have hDj : (ts.map (dgd s))[j]? = some (dgd s u) := by rw [List.getElem?_map, hu]; rfl
          obtain ⟨hBu, hgu, hux, _, hwl, _⟩ := unhide HDl wr hbw7 u hum
          have hBt := unhide HDT wr hbw7
          have HFI := Lib.hid (filt_snoc hDj (antiD (dgd s t)) fun b => ((dgd s t).tx, b.tx))
          have HTU : Hid (antiD (dgd s t) (dgd s u) = (!decide (t = u) && ((decide ((dgd s u).ended < 0) || decide ((dgd s t).began < (dgd s u).ended)) && (decide ((dgd s t).ended < 0) || decide ((dgd s u).began < (dgd s t).ended))) && (dgd s u).wrote.any (readD (dgd s t)))) := Lib.hid (by unfold antiD atOnceD; rw [HTX.out, hux])
          have HUX := Lib.hid hux
          have HSK := Lib.hid (show antiD (dgd s t) (dgd s u) = false → (((ts.map (dgd s)).take (j + 1)).filter (antiD (dgd s t))).map (fun b => ((dgd s t).tx, b.tx)) = (((ts.map (dgd s)).take j).filter (antiD (dgd s t))).map (fun b => ((dgd s t).tx, b.tx)) from fun e => by rw [HFI.out, e]; simp)
          have HUM := Lib.hid hum
          clear hu hum hDj hux
          by_cases htu : t = u
          · subst htu
            have HNX := Lib.hid (HSK.out (by rw [HTU.out]; simp))
            have hpp := neq_deal_same wr (L.g t)
            go_wp2
            go_roundw
            case rel => exact ⟨j + 1, q, by omega, by go_num, by omega, by rw [HNX.out]; exact ho7, hbw7⟩
            case measure => simp [intOf]; omega
          · have hgne := HNE.out t u HTM.out HUM.out htu
            have hpp := neq_deal_other hBt hBu hgne
            have CA := hide (atOnce_any (L.g t) (L.g u) t (dgd s t).began (dgd s t).ended u (dgd s u).began (dgd s u).ended _ _ _ _ _ _ wr hBt hBu)
            obtain ⟨qq, hqq⟩ : ∃ qq : Bool, ((decide ((dgd s u).ended < 0) || decide ((dgd s t).began < (dgd s u).ended)) && (decide ((dgd s t).ended < 0) || decide ((dgd s u).began < (dgd s t).ended))) = qq := ⟨_, rfl⟩
            rw [hqq] at CA
            have HTV : Hid (antiD (dgd s t) (dgd s u) = (qq && (dgd s u).wrote.any (readD (dgd s t)))) := Lib.hid (by rw [HTU.out, hqq, decide_eq_false htu]; simp)
            clear hqq HTU htu
            go_wp2_with fail
            refine (unhide CA).mono ?_
            rintro e w7 ⟨rfl, mm, rfl⟩
            clear CA hpp
            cases qq
            · have HNX := Lib.hid (HSK.out (by rw [HTV.out]; rfl))
              go_wp2
              go_roundw
              case rel => exact ⟨j + 1, q, by omega, by go_num, by omega, by rw [HNX.out]; exact ho7, below_drewN hbw7 _⟩
              case measure => simp [intOf]; omega
            · have hbwd := below_drewN hbw7 mm
              have hX := unhide HDl (wr.drewN mm) hbwd u HUM.out
              obtain ⟨Aw, cw, hvw⟩ := own_slice hX.2.2.2.1
              have hBu2 := hX.1
              have hww := hX.2.2.2.1
              rw [hvw] at hBu2 hww
              have y4 := hBu2.cellS (i := 4) (v := .slice Aw _ cw) rfl
              have CF := hide (containsFunc_intB Aw (dgd s u).wrote.length cw (dgd s u).wrote 36 #[.pointer (some ⟨L.g t, 0, none⟩)] #[] (readD (dgd s t)) (wr.drewN mm) (rd_own hww) (by omega) call_read (fun i _ w' hb => by
                have := unhide HRead w' (hbwd.trans (hb.mono hbwd.size)) t HTM.out i
                simpa using this))
              obtain ⟨rr, hrr⟩ : ∃ rr : Bool, (dgd s u).wrote.any (readD (dgd s t)) = rr := ⟨_, rfl⟩
              rw [hrr] at CF
              have HTW : Hid (antiD (dgd s t) (dgd s u) = rr) := Lib.hid (by rw [HTV.out, hrr]; rfl)
              clear hrr hX hww hvw
              go_wp2_with fail
              refine (unhide CF).mono ?_
              rintro e w8 ⟨rfl, hb8⟩
              have hbw8 := hbwd.trans (hb8.mono hbwd.size)
              have ho8 := own_below (show (wr.drewN mm).ownsRow _ _ _ _ _ _ from ho7) hb8 (Nat.le_refl _)
              clear CF y4 hBu2
              cases rr
              · have HNX := Lib.hid (HSK.out HTW.out)
                go_wp2
                go_roundw
                case rel => exact ⟨j + 1, q, by omega, by go_num, by omega, by rw [HNX.out]; exact ho8, hbw8⟩
                case measure => simp [intOf]; omega
              · have HNX : Hid ((((ts.map (dgd s)).take (j + 1)).filter (antiD (dgd s t))).map (fun b => ((dgd s t).tx, b.tx)) = (((ts.map (dgd s)).take j).filter (antiD (dgd s t))).map (fun b => ((dgd s t).tx, b.tx)) ++ [(t, u)]) := Lib.hid (by rw [HFI.out, HTW.out, HTX.out, HUX.out]; rfl)
                go_upto_region 9 with fail
                obtain ⟨hBu8, hgu8, _⟩ := unhide HDl w8 hbw8 u HUM.out
                have hBt8 := unhide HDT w8 hbw8
                have hgT2 := HTG.out
                have e0 := hBt8.cellS (i := 0) (v := .int .i64 t) rfl
                have e1 := hBu8.cellS (i := 0) (v := .int .i64 u) rfl
                have hz8 := hbw8.size
                have hTd : L.g t < w8.heap.size := by omega
                have hUd : L.g u < w8.heap.size := by omega
                have ho8d : w8.drew.ownsRow w.heap.size 54 2 (.slice A7 q c7) q (dcells (((ts.map (dgd s)).take k).flatMap (fun a => ((ts.map (dgd s)).filter (antiD a)).map fun b => (a.tx, b.tx)) ++ ((((ts.map (dgd s)).take j).filter (antiD (dgd s t))).map fun b => ((dgd s t).tx, b.tx)))) := ho8
                have oneX := oneD [(t, u)]
                clear ho7 ho8 hbw7 hBt hBu hBt8 hBu8
                go_region_held3 (fun w' => w'.cell? ⟨L.g t, 0, none⟩ = some (.int .i64 t) ∧ w'.cell? ⟨L.g u, 0, none⟩ = some (.int .i64 u)) (first | exact hcell9 | exact ⟨e0, e1⟩ | exact ⟨(World.cell?_alloc_lt w8 _ _ hTd).trans e0, (World.cell?_alloc_lt w8 _ _ hUd).trans e1⟩ | go_keep)
                  (first
                    | (refine step_app rfl (.tmp 37) (.tmp 47) _ rfl w.heap.size slt_edge (n := q) (m := 1) (news := dcells [(t, u)]) rfl (own_alloc ho8d _) rfl (rd_new' _ _ (dcells [(t, u)]) (by simp) rfl) oneX (by omega) (by simp; omega) ?_; intro v9 w9 hown9 hg9 hb9; have hcell9 : w9.cell? ⟨L.g t, 0, none⟩ = some (.int .i64 t) ∧ w9.cell? ⟨L.g u, 0, none⟩ = some (.int .i64 u) := ⟨(hb9.cell (p := ⟨L.g t, 0, none⟩) hgT2).trans ((World.cell?_alloc_lt w8 _ _ hTd).trans e0), (hb9.cell (p := ⟨L.g u, 0, none⟩) hgu8).trans ((World.cell?_alloc_lt w8 _ _ hUd).trans e1)⟩))
                rw [← dcells_append, List.append_assoc, ← HNX.out] at hown9
                have hb10 := (hbw8.drew.alloc hz8 (.cells (dcells [(t, u)]).toArray 54)).trans hb9
                go_wp2
                go_roundw
                case rel => exact ⟨j + 1, q + 1, by omega, by go_num, by omega, hown9, hb10⟩
                case measure => simp [intOf]; omega
        · have HT : Hid ((ts.map (dgd s)).take j = ts.map (dgd s)) := Lib.hid (List.take_of_length_le (by rw [List.length_map]; omega))
          have ho9 : wr.ownsRow w.heap.size 54 2 (.slice A7 q c7) q (dcells (((ts.map (dgd s)).take (k + 1)).flatMap (fun a => ((ts.map (dgd s)).filter (antiD a)).map fun b => (a.tx, b.tx)))) := by rw [HFL.out]; rw [HT.out] at ho7; exact ho7
          go_wp2
          go_roundw
          case rel => exact ⟨k + 1, q, by omega, by go_num, by omega, ho9, hbw7⟩
          case measure => simp [intOf]; omega
    · have HT : Hid ((ts.map (dgd s)).take k = ts.map (dgd s)) := Lib.hid (List.take_of_length_le (by rw [List.length_map]; omega))
      rw [HT.out] at ho6
      have hm2 : m ≤ 3600 := Nat.le_trans hmk (Nat.le_trans (Nat.mul_le_mul (Nat.le_trans hk hn) hn) (by decide))
      have C3 := hide (sortedE_own ho6 hbw.size (by omega))
      go_wp2_with fail
      refine (unhide C3).mono ?_
      rintro e w4 ⟨m4, rfl, ho4, hm4, hb4⟩
      have hbz := hbw.trans hb4
      have HO4 := hide (rd_own ho4)
      go_wp2
      go_ret
      exact ⟨_, _, _, rfl, unhide HO4, by omega, hbz⟩

/-! ### pivots. -/
theorem call_piv1 (args : Array Value) (w : World) : (callFunc 41 args).run Tryz.prog w = .ok (.enter 41 args) w := by kernel_rfl
theorem call_piv2 (args : Array Value) (w : World) : (callFunc 42 args).run Tryz.prog w = .ok (.enter 42 args) w := by kernel_rfl
theorem piv1_any (g : Nat) (d : Int) (x : Int × Int) (w : World) (h : Blk w g 3 [.int .i64 d]) : Calls Tryz.prog 41 #[eVal x, .pointer (some ⟨g, 0, none⟩)] w fun e w' => e = .returned (.bool (decide (x.2 = d))) ∧ Below w.heap.size w w' := by
  obtain ⟨a, b⟩ := x
  have e0 := (h.alloc (.cells #[.int .i64 a, .int .i64 b] 54)).cellS (i := 0) (v := .int .i64 d) rfl
  have hb0 : Below w.heap.size w (w.alloc (.cells #[.int .i64 a, .int .i64 b] 54)) := (Below.refl _ _).alloc (Nat.le_refl _) _
  clear h
  unfold eVal
  go_enter Tryz.func41, Tryz.ntmps41
  go_wp2
  go_ret
  exact ⟨by simp; rfl, hb0⟩
theorem piv2_any (g : Nat) (d : Int) (x : Int × Int) (w : World) (h : Blk w g 3 [.int .i64 d]) : Calls Tryz.prog 42 #[eVal x, .pointer (some ⟨g, 0, none⟩)] w fun e w' => e = .returned (.bool (decide (x.1 = d))) ∧ Below w.heap.size w w' := by
  obtain ⟨a, b⟩ := x
  have e0 := (h.alloc (.cells #[.int .i64 a, .int .i64 b] 54)).cellS (i := 0) (v := .int .i64 d) rfl
  have hb0 : Below w.heap.size w (w.alloc (.cells #[.int .i64 a, .int .i64 b] 54)) := (Below.refl _ _).alloc (Nat.le_refl _) _
  clear h
  unfold eVal
  go_enter Tryz.func42, Tryz.ntmps42
  go_wp2
  go_ret
  exact ⟨by simp; rfl, hb0⟩
/-- Numbers from 1 to 6, of which so many. -/
def pivT (E : List (Int × Int)) (k : Nat) : List Int := (([1, 2, 3, 4, 5, 6] : List Int).take k).filter fun t => (E.any fun e => decide (e.2 = t)) && E.any fun e => decide (e.1 = t)
theorem pivT_succ (E : List (Int × Int)) {k : Nat} (hk : k < 6) : pivT E (k + 1) = pivT E k ++ (if ((E.any fun e => decide (e.2 = (k : Int) + 1)) && E.any fun e => decide (e.1 = (k : Int) + 1)) = true then [(k : Int) + 1] else []) := by
  unfold pivT
  have h : ([1, 2, 3, 4, 5, 6] : List Int)[k]? = some ((k : Int) + 1) := by
    have : k = 0 ∨ k = 1 ∨ k = 2 ∨ k = 3 ∨ k = 4 ∨ k = 5 := by omega
    rcases this with rfl | rfl | rfl | rfl | rfl | rfl <;> rfl
  rw [List.take_add_one, h, List.filter_append]
  congr 1
  show List.filter _ [(k : Int) + 1] = _
  split <;> rename_i h2 <;> simp [h2]
def cellInt (w : World) : Value → Nat
  | .pointer (some a) => match w.cell? a with
    | some (.int _ d) => (7 - d).toNat
    | _ => 0
  | _ => 0
theorem cellInt_at {w : World} {g : Nat} {d : Int} (h : Blk w g 3 [.int .i64 d]) : cellInt w (.pointer (some ⟨g, 0, none⟩)) = (7 - d).toNat := by
  have e := h.cellS (i := 0) (v := .int .i64 d) rfl
  simp only [cellInt, e]
set_option maxRecDepth 100000 in
set_option maxHeartbeats 4000000 in
theorem pivots_any (A : Option Addr) (n c : Nat) (E : List (Int × Int)) (w : World) (hr : Rd w w.heap.size 2 A n (dcells E)) (hn : n ≤ 100000) :
    Calls Tryz.prog 25 #[.slice A n c] w fun e w' => ∃ A' m c', e = .returned (.slice A' m c') ∧ Rd w' w'.heap.size 1 A' m (cellsI (pivL E)) ∧ m ≤ 6 ∧ Below w.heap.size w w' := by
  have HRd := hide (fun w' (hb : Below w.heap.size w w') => (hr.below hb).more hb.size)
  have HPL : Hid (pivL E = pivT E 6) := Lib.hid rfl
  have hB0 := Blk.new w 3 [.int .i64 1]
  have hb0 : Below w.heap.size w (w.alloc (.cells #[.int .i64 1] 3)) := (Below.refl _ _).alloc (Nat.le_refl _) _
  clear hr
  go_enter Tryz.func25, Tryz.ntmps25
  go_wp2
  go_loopw [3, 4] (fun s3 s4 wr => ∃ (k m g : Nat), k ≤ 6 ∧ m ≤ k ∧ s4 = .pointer (some ⟨g, 0, none⟩) ∧ w.heap.size ≤ g ∧ Blk wr g 3 [.int .i64 ((k : Int) + 1)] ∧ wr.ownsRow w.heap.size 3 1 s3 m (cellsI (pivT E k)) ∧ Hid (∀ j, s3.ownBlock = some j → j ≠ g) ∧ Below w.heap.size w wr) (fun _ s4 wr => cellInt wr s4)
  case atStart => exact ⟨0, 0, w.heap.size, Nat.zero_le _, Nat.le_refl _, rfl, Nat.le_refl _, hB0, World.ownsRow_nil _ _ _ _, Lib.hid (fun _ h => by cases h), hb0⟩
  case round =>
    clear hB0 hb0
    obtain ⟨k, m, g, hk, hmk, rfl, hg, hB, ho, HN, hbw⟩ := hrel
    obtain ⟨A3, c3, rfl⟩ := own_slice ho
    have e0 := hB.cellS (i := 0) (v := .int .i64 ((k : Int) + 1)) rfl
    have hgl := hB.lt
    have HBR := hide hB
    by_cases hlt : k < 6
    · have hq : decide ((k : Int) + 1 ≤ 6) = true := decide_eq_true (by omega)
      have HPS := Lib.hid (pivT_succ E hlt)
      have C1 := hide (containsFunc_edge A n c E 41 #[.pointer (some ⟨g, 0, none⟩)] (fun e => decide (e.2 = (k : Int) + 1)) wr (unhide HRd wr hbw) (by omega) call_piv1 (fun x _ w' hb => piv1_any g _ x w' (hB.below hb hgl)))
      obtain ⟨p, hp⟩ : ∃ p : Bool, (E.any fun e => decide (e.2 = (k : Int) + 1)) = p := ⟨_, rfl⟩
      obtain ⟨q, hq2⟩ : ∃ q : Bool, (E.any fun e => decide (e.1 = (k : Int) + 1)) = q := ⟨_, rfl⟩
      rw [hp] at C1
      have HPQ : Hid (pivT E (k + 1) = pivT E k ++ (if (p && q) = true then [(k : Int) + 1] else [])) := Lib.hid (by rw [HPS.out, hp, hq2])
      have HQ2 := Lib.hid hq2
      clear HPS hp hq2
      go_wp2_with fail
      refine (unhide C1).mono ?_
      rintro e w1 ⟨rfl, hb1⟩
      have hbw1 := hbw.trans (hb1.mono hbw.size)
      have hB1 := hB.below hb1 hgl
      have ho1 := own_below ho hb1 (Nat.le_refl _)
      have C2 := hide (containsFunc_edge A n c E 42 #[.pointer (some ⟨g, 0, none⟩)] (fun e => decide (e.1 = (k : Int) + 1)) w1 (unhide HRd w1 hbw1) (by omega) call_piv2 (fun x _ w' hb => piv2_any g _ x w' (hB1.below hb hB1.lt)))
      rw [HQ2.out] at C2
      clear C1 ho hB e0 hb1
      go_wp2_with fail
      refine (unhide C2).mono ?_
      rintro e w2 ⟨rfl, hb2⟩
      have hbw2 := hbw1.trans (hb2.mono hbw1.size)
      have hB2 := hB1.below hb2 hB1.lt
      have ho2 := own_below ho1 hb2 (Nat.le_refl _)
      have e2 := hB2.cellS (i := 0) (v := .int .i64 ((k : Int) + 1)) rfl
      have hz2 := hbw2.size
      have hgl2 := hB2.lt
      have HM := Lib.hid (cellInt_at (w := wr) (g := g) (d := (k : Int) + 1) (unhide HBR))
      have i1 : IntKind.i64.wrap ((k : Int) + 1 + 1) = (k : Int) + 1 + 1 := IntWalk.i64_in _ (by omega)
      cases p
      · have HPN : Hid (pivT E (k + 1) = pivT E k) := Lib.hid (by rw [HPQ.out]; simp)
        have hBn := Blk.new w2 3 [.int .i64 ((k : Int) + 1)]
        have fz := hBn.frozen 0
        have fc := hBn.cellS (i := 0) (v := .int .i64 ((k : Int) + 1)) rfl
        have hlo := ho2.lt
        have hoE := own_alloc ho2 (.cells #[.int .i64 ((k : Int) + 1 + 1)] 3)
        rw [← HPN.out] at hoE
        have hBE : Blk (w2.alloc (.cells #[.int .i64 ((k : Int) + 1 + 1)] 3)) w2.heap.size 3 [.int .i64 (((k + 1 : Nat) : Int) + 1)] := by
          have := Blk.new w2 3 [.int .i64 ((k : Int) + 1 + 1)]
          simpa using this
        have hbE := hbw2.alloc hbw2.size (.cells #[.int .i64 ((k : Int) + 1 + 1)] 3)
        have HNE : Hid (∀ j, (Value.slice A3 m c3).ownBlock = some j → j ≠ w2.heap.size) := Lib.hid (fun j hj e => by have := (hlo j hj).2; omega)
        have hgE := hbw2.size
        have HME := Lib.hid (cellInt_at hBE)
        go_wp2
        go_roundw
        case rel => exact ⟨k + 1, m, w2.heap.size, by omega, by omega, rfl, hgE, hBE, hoE, HNE, hbE⟩
        case measure => rw [HM.out, HME.out]; omega
      · cases q
        · have HPN : Hid (pivT E (k + 1) = pivT E k) := Lib.hid (by rw [HPQ.out]; simp)
          have hBn := Blk.new w2 3 [.int .i64 ((k : Int) + 1)]
          have fz := hBn.frozen 0
          have fc := hBn.cellS (i := 0) (v := .int .i64 ((k : Int) + 1)) rfl
          have hlo := ho2.lt
          have hoE := own_alloc ho2 (.cells #[.int .i64 ((k : Int) + 1 + 1)] 3)
          rw [← HPN.out] at hoE
          have hBE : Blk (w2.alloc (.cells #[.int .i64 ((k : Int) + 1 + 1)] 3)) w2.heap.size 3 [.int .i64 (((k + 1 : Nat) : Int) + 1)] := by
            have := Blk.new w2 3 [.int .i64 ((k : Int) + 1 + 1)]
            simpa using this
          have hbE := hbw2.alloc hbw2.size (.cells #[.int .i64 ((k : Int) + 1 + 1)] 3)
          have HNE : Hid (∀ j, (Value.slice A3 m c3).ownBlock = some j → j ≠ w2.heap.size) := Lib.hid (fun j hj e => by have := (hlo j hj).2; omega)
          have hgE := hbw2.size
          have HME := Lib.hid (cellInt_at hBE)
          go_wp2
          go_roundw
          case rel => exact ⟨k + 1, m, w2.heap.size, by omega, by omega, rfl, hgE, hBE, hoE, HNE, hbE⟩
          case measure => rw [HM.out, HME.out]; omega
        · have HPN2 : Hid (cellsI (pivT E (k + 1)) = cellsI (pivT E k) ++ cellsI [(k : Int) + 1]) := Lib.hid (by rw [HPQ.out]; simp [cellsI])
          go_wp2_with (at_builtin; refine wpList_app rfl (.tmp 21) (.tmp 23) _ rfl w.heap.size slt_ints (n := m) (xs := cellsI (pivT E k)) (m := 1) (news := cellsI [(k : Int) + 1]) rfl (own_alloc ho2 _) rfl (rd_new' _ _ (cellsI [(k : Int) + 1]) (by simp) rfl) (oneI _) (by omega) (by simp; omega) ?_; intro v5 w5 hown5 hg5 hb5 hat5 hne5; obtain ⟨A5, c5, rfl⟩ := own_slice hown5; rw [← HPN2.out] at hown5; have hbw5 := (hbw2.alloc hz2 (.cells (cellsI [(k : Int) + 1]).toArray 3)).trans hb5; have hB5 := (hB2.alloc (.cells (cellsI [(k : Int) + 1]).toArray 3)).grown hg5 (fun j hj e => HN.out j hj e.symm); have e5 := hB5.cellS (i := 0) (v := .int .i64 ((k : Int) + 1)) rfl; have hBn := Blk.new w5 3 [.int .i64 ((k : Int) + 1)]; have fz := hBn.frozen 0; have fc := hBn.cellS (i := 0) (v := .int .i64 ((k : Int) + 1)) rfl)
          have hlo := hown5.lt
          have hoE := own_alloc hown5 (.cells #[.int .i64 ((k : Int) + 1 + 1)] 3)
          have hBE : Blk (w5.alloc (.cells #[.int .i64 ((k : Int) + 1 + 1)] 3)) w5.heap.size 3 [.int .i64 (((k + 1 : Nat) : Int) + 1)] := by
            have := Blk.new w5 3 [.int .i64 ((k : Int) + 1 + 1)]
            simpa using this
          have hbE := hbw5.alloc hbw5.size (.cells #[.int .i64 ((k : Int) + 1 + 1)] 3)
          have HNE : Hid (∀ j, (Value.slice A5 (m + 1) c5).ownBlock = some j → j ≠ w5.heap.size) := Lib.hid (fun j hj e => by have := (hlo j hj).2; omega)
          have hgE := hbw5.size
          have HME := Lib.hid (cellInt_at hBE)
          go_roundw
          case rel => exact ⟨k + 1, m + 1, w5.heap.size, by omega, by omega, rfl, hgE, hBE, hoE, HNE, hbE⟩
          case measure => rw [HM.out, HME.out]; omega
    · obtain rfl : k = 6 := by omega
      rw [← HPL.out] at ho
      have HO := hide (rd_own ho)
      go_wp2
      go_ret
      exact ⟨_, _, _, rfl, unhide HO, by omega, hbw⟩
end Go.Proofs.YtfmdeahblaikoaaGreatDoor


namespace Go.Proofs.YtfmdeahblaikoaaGreatDoor
open Go.RowKit

theorem slt_deal : SlT Tryz.prog 65 81 1 8 := slt_of (z := .pointer none) Tryz.underlying65 (by kernel_rfl) (by kernel_rfl) (by decide) (by decide)

set_option maxHeartbeats 400000 in
theorem clone_deal (A : Option Addr) (n cap : Nat) (xs : List Value) (w : World) (hr : Rd w w.heap.size 1 A n xs) (h1 : ∀ u ∈ xs, u.oneCell' = true) (hm : n * 8 ≤ 140737488355328) :
    Calls Tryz.prog 45 #[.slice A n cap] w fun e w' => ∃ v, e = .returned v ∧ w'.ownsRow w.heap.size 81 1 v n xs ∧ Below w.heap.size w w' := by
  have hnil := fun (w : World) => Lib.run_eql_slice_nil (P := Tryz.prog) w 65 81 A n cap 0 0 Tryz.underlying65
  rcases A with _ | ad
  · have h0 : n = 0 := by
      rcases Nat.eq_zero_or_pos n with h | h
      · exact h
      · obtain ⟨_, _, h, _⟩ := hr.2 h
        cases h
    subst h0
    have hx : xs = [] := List.eq_nil_of_length_eq_zero (by simpa using hr.1)
    subst hx
    clear h1 hr
    go_enter Tryz.func45, Tryz.ntmps45
    go_wp2
    go_ret
    exact ⟨_, rfl, World.ownsRow_nil _ _ _ _, Below.refl _ _⟩
  · have H1 := Lib.hid h1
    clear h1
    go_enter Tryz.func45, Tryz.ntmps45
    go_wp2_with (at_builtin; refine wpList_app rfl _ _ _ rfl w.heap.size slt_deal rfl (World.ownsRow_made w #[] 0 (Nat.le_refl _) (by decide) rfl) rfl (hr.alloc (Nat.le_refl _) _) H1.out (by omega) (by simp) ?_; intro v1 w1 hown1 hg1 hb1 hat1 hne1)
    go_ret
    exact ⟨_, rfl, by simpa using hown1, ((Below.refl _ _).alloc (Nat.le_refl _) _).trans hb1⟩
/-- An append that a guard asks for. -/
theorem wpList_app_g {P : Program} {w : World} {ops : Array Oper} {rest : List Oper} {o : Oper} {a : Act} {Q : Exit → Act → World → Prop} (hgd : Region.wanted o (yielded ops a.tmps) = true) (s x : Operand) (t : TypeId)
    (ho : o.op = .call { callee := .builtin .append, args := #[s, x], argTypes := #[t, t] })
    {e : TypeId} {size bytes : Nat} (base : Nat) (T : SlT P t e size bytes) {v : Value} {n : Nat} {xs : List Value} (hs : a.eval s = v) (hown : w.ownsRow base e size v n xs)
    {B : Nat} {A : Option Addr} {m c : Nat} {news : List Value} (hx : a.eval x = .slice A m c) (hr : Rd w B size A m news) (h1 : ∀ u ∈ news, u.oneCell' = true) (hbytes : (n + m) * bytes ≤ 140737488355328) (hbase : base ≤ w.heap.size)
    (h : ∀ v' w', w'.ownsRow base e size v' (n + m) (xs ++ news) → w.grownBy w' v.ownBlock → Below base w w' → (v'.ownBlock = v.ownBlock ∨ v'.ownBlock = some w.heap.size) → (0 < n + m → v'.ownBlock ≠ none) → wpList P ops Q rest (a.put o.dst v') w') : wpList P ops Q (o :: rest) a w := by
  show if _ then _ else _
  rw [if_pos hgd]
  exact .inl (wp_app s x t ho base T hs hown hx hr h1 hbytes hbase fun v' w' h2 h3 h4 h5 h6 => h v' w' h2 h3 h4 h5 h6)
theorem call_danMay (args : Array Value) (w : World) : (callFunc 29 args).run Tryz.prog w = .ok (.enter 29 args) w := by kernel_rfl
theorem onePtr (L : VLay) (ts : List Int) : ∀ u ∈ ts.map (ptrD L), u.oneCell' = true := fun u hu => by
  obtain ⟨t, _, rfl⟩ := List.mem_map.1 hu
  rfl
theorem dgd_mem {s : VSt} (hn : (s.ds.map (·.tx)).Nodup) {d : Dl} (hd : d ∈ s.ds) : dgd s d.tx = d := by unfold dgd; rw [dget_mem hn hd]; rfl
set_option maxRecDepth 100000 in
set_option maxHeartbeats 4000000 in
theorem danMay_any {tk tl : TypeId} {lo : Nat} {s : VSt} {L : VLay} {tag : Nat → Int × Nat} {k0 : Nat} (w : World) (H : VHeap (vT tk tl) lo w s L tag) (hk : VOk k0 s) (hk0 : k0 ≤ 41) {d : Dl} (hd : d ∈ s.ds) :
    Calls Tryz.prog 29 #[.pointer (some ⟨L.g d.tx, 0, none⟩), L.vd] w fun e w' => e = .returned (.bool (danR.may s d)) ∧ Below w.heap.size w w' := by
  obtain ⟨Ad, cd, hvd⟩ := own_slice H.done
  have hdl : s.dn.length ≤ 41 := by have := hk.dn; omega
  have CM := hide (snapMay_any w H hk (by omega) hd)
  have CC := hide (fun w1 (hb : Below w.heap.size w w1) => clone_deal Ad s.dn.length cd (s.dn.map (ptrD L)) w1 (rd_own (by rw [← hvd]; exact (H.below hb).done)) (onePtr L s.dn) (by omega))
  have CE := hide (fun A n c w1 (hb : Below w.heap.size w w1) (hr : Rd w1 w1.heap.size 1 A n ((s.dn ++ [d.tx]).map (ptrD L))) (hn : n ≤ 60) => edges_any w1 (H.below hb) hk hk0 A n c (s.dn ++ [d.tx]) hr (fun t ht => by
    rcases List.mem_append.1 ht with h | h
    · exact H.sub t h
    · rw [List.mem_singleton.1 h]; exact List.mem_map.2 ⟨d, hd, rfl⟩) hn)
  have HR : Hid (pivL (sortS ltE (rawP antiD ((s.dn ++ [d.tx]).map (dgd s)))) = pivsD (doneD s ++ [d])) := Lib.hid (by rw [pivL_anti, List.map_append]; show pivsD (_ ++ [dgd s d.tx]) = _; rw [dgd_mem H.nodup hd]; rfl)
  have HV : Hid (danR.may s d = (snapR.may s d && (pivsD (doneD s ++ [d])).isEmpty)) := Lib.hid rfl
  rw [hvd] at CM ⊢
  obtain ⟨q, hq⟩ : ∃ q : Bool, snapR.may s d = q := ⟨_, rfl⟩
  rw [hq] at CM
  have HQ := Lib.hid hq
  clear H hk hvd hq
  generalize danR.may s d = R at *
  go_enter Tryz.func29, Tryz.ntmps29
  go_wp2_with fail
  refine (unhide CM).mono ?_
  rintro e w1 ⟨rfl, hb1⟩
  clear CM
  cases q
  · have HV2 : Hid (R = false) := Lib.hid (by rw [HV.out, HQ.out]; rfl)
    go_wp2
    go_ret
    exact ⟨ret_bool HV2.out.symm, hb1⟩
  · go_wp2_with fail
    refine (unhide CC w1 hb1).mono ?_
    rintro e w2 ⟨v2, rfl, ho2, hb2⟩
    obtain ⟨A2, c2, rfl⟩ := own_slice ho2
    have hbw2 := hb1.trans (hb2.mono hb1.size)
    have hz2 := hb2.size
    go_wp2_with ((with_reducible show wpList _ _ _ _ _ _); (refine wpList_app_g (by rfl) (.tmp 10) (.tmp 12) _ rfl w1.heap.size slt_deal (n := s.dn.length) (xs := s.dn.map (ptrD L)) (m := 1) (news := [.pointer (some ⟨L.g d.tx, 0, none⟩)]) rfl (own_alloc ho2 _) rfl (rd_new' _ _ [.pointer (some ⟨L.g d.tx, 0, none⟩)] (by simp) rfl) (by simp [Value.oneCell']) (by omega) (by simp; omega) ?_; intro v3 w3 hown3 hg3 hb3 hat3 hne3; obtain ⟨A3, c3, rfl⟩ := own_slice hown3))
    have hbw3 := hbw2.trans ((((Below.refl w2.heap.size w2).alloc (Nat.le_refl _) (.cells [.pointer (some ⟨L.g d.tx, 0, none⟩)].toArray 81)).mono hbw2.size).trans (hb3.mono hb1.size))
    have hr3 : Rd w3 w3.heap.size 1 A3 (s.dn.length + 1) ((s.dn ++ [d.tx]).map (ptrD L)) := by
      have := rd_own hown3
      rw [List.map_append]; exact this
    refine (unhide CE A3 (s.dn.length + 1) c3 w3 hbw3 hr3 (by omega)).mono ?_
    rintro e w4 ⟨A4, m4, c4, rfl, hr4, hm4, hb4⟩
    have hbw4 := hbw3.trans (hb4.mono hbw3.size)
    have CP := hide (pivots_any A4 m4 c4 _ w4 hr4 (by omega))
    rw [HR.out] at CP
    clear CC CE HR hr3 hown3 ho2 hr4
    go_wp2_with fail
    refine (unhide CP).mono ?_
    rintro e w5 ⟨A5, m5, c5, rfl, hr5, hm5, hb5⟩
    have hl5 := hr5.ilen
    have hbw5 := hbw4.trans (hb5.mono hbw4.size)
    have HV2 : Hid (R = decide (m5 = 0)) := Lib.hid (by
      rw [HV.out, HQ.out, Bool.true_and, ← hl5]
      cases pivsD (doneD s ++ [d]) <;> simp)
    clear CP hr5 hl5 HV
    by_cases h5 : m5 = 0
    · have HV3 : Hid (R = true) := Lib.hid (by rw [HV2.out, decide_eq_true h5])
      subst h5
      go_wp2
      go_ret
      exact ⟨ret_bool HV3.out.symm, hbw5⟩
    · have HV3 : Hid (R = false) := Lib.hid (by rw [HV2.out, decide_eq_false h5])
      have h6 : ((m5 : Int) == 0) = false := by rw [beq_eq_false_iff_ne]; omega
      go_wp2
      go_ret
      exact ⟨ret_bool HV3.out.symm, hbw5⟩
set_option maxHeartbeats 2000000 in
theorem dedges_any (A : Option Addr) (n c : Nat) (h : List HOp) (w : World) (hr : Rd w w.heap.size 3 A n (cellsH h)) (hm : n ≤ 6000000000000) (hok : okH h) :
    Calls Tryz.prog 8 #[.slice A n c] w fun e w' => ∃ A' m c', e = .returned (.tuple #[.slice A' m c', .nilIface]) ∧ Rd w' w'.heap.size 2 A' m (dcells (sortS ltE (rawP antiD (doneD (playV snapR h))))) ∧ m ≤ 3600 ∧ Below w.heap.size w w' := by
  have CR := hide (right_h A n c h w hr hm)
  rw [show (checkF h).2 = 0 from hok] at CR
  have CD := hide (fun w1 (hb : Below w.heap.size w w1) => deals_any A n c h w1 ((hr.below hb).more hb.size) hok)
  generalize playV snapR h = s at *
  clear hr hok
  go_enter Tryz.func8, Tryz.ntmps8
  go_wp2_with fail
  refine (unhide CR).mono ?_
  rintro e w1 ⟨rfl, hb1⟩
  rw [errV_zero]
  go_wp2_with fail
  refine (unhide CD w1 hb1).mono ?_
  rintro e w2 ⟨L, tag, rfl, H2, hk2, hb2⟩
  have hbw2 := hb1.trans (hb2.mono hb1.size)
  obtain ⟨Ad, cd, hvd⟩ := own_slice H2.done
  have hdl := hk2.dn
  have CE := hide (edges_any w2 H2 hk2 (by omega) Ad s.dn.length cd s.dn (rd_own (by rw [← hvd]; exact H2.done)) H2.sub (by omega))
  rw [hvd]
  clear CR CD H2 hk2 hvd hb1 hb2
  go_wp2_with fail
  refine (unhide CE).mono ?_
  rintro e w3 ⟨A3, m3, c3, rfl, hr3, hm3, hb3⟩
  have HR3 := hide hr3
  clear hr3 CE
  go_wp2
  go_ret2
  exact ⟨_, _, _, rfl, unhide HR3, hm3, hbw2.trans (hb3.mono hbw2.size)⟩
theorem dedges_no (A : Option Addr) (n c : Nat) (h : List HOp) (w : World) (hr : Rd w w.heap.size 3 A n (cellsH h)) (hm : n ≤ 6000000000000) (hno : ¬ okH h) :
    Calls Tryz.prog 8 #[.slice A n c] w fun e w' => e = .returned (.tuple #[.slice none 0 0, errV (checkF h).2]) ∧ Below w.heap.size w w' := by
  have CR := hide (right_h A n c h w hr hm)
  rw [ne_errV (show (checkF h).2 ≠ 0 from hno)] at CR ⊢
  generalize (checkF h).2 = ev at *
  clear hno hr
  go_enter Tryz.func8, Tryz.ntmps8
  go_wp2_with fail
  refine (unhide CR).mono ?_
  rintro e w1 ⟨rfl, hb1⟩
  go_wp2
  go_ret2
  exact ⟨rfl, hb1⟩
set_option maxHeartbeats 2000000 in
theorem dpivots_any (A : Option Addr) (n c : Nat) (h : List HOp) (w : World) (hr : Rd w w.heap.size 3 A n (cellsH h)) (hm : n ≤ 6000000000000) (hok : okH h) :
    Calls Tryz.prog 11 #[.slice A n c] w fun e w' => ∃ A' m c', e = .returned (.tuple #[.slice A' m c', .nilIface]) ∧ Rd w' w'.heap.size 1 A' m (cellsI (pivsD (doneD (playV snapR h)))) ∧ m ≤ 6 ∧ Below w.heap.size w w' := by
  have CE := hide (dedges_any A n c h w hr hm hok)
  have HR := Lib.hid (pivL_anti (doneD (playV snapR h)))
  clear hr hok
  go_enter Tryz.func11, Tryz.ntmps11
  go_wp2_with fail
  refine (unhide CE).mono ?_
  rintro e w1 ⟨A1, m1, c1, rfl, hr1, hm1, hb1⟩
  have CP := hide (pivots_any A1 m1 c1 _ w1 hr1 (by omega))
  rw [HR.out] at CP
  clear hr1 CE
  go_wp2_with fail
  refine (unhide CP).mono ?_
  rintro e w2 ⟨A2, m2, c2, rfl, hr2, hm2, hb2⟩
  have HR2 := hide hr2
  clear hr2 CP
  go_wp2
  go_ret2
  exact ⟨_, _, _, rfl, unhide HR2, hm2, hb1.trans (hb2.mono hb1.size)⟩
theorem dpivots_no (A : Option Addr) (n c : Nat) (h : List HOp) (w : World) (hr : Rd w w.heap.size 3 A n (cellsH h)) (hm : n ≤ 6000000000000) (hno : ¬ okH h) :
    Calls Tryz.prog 11 #[.slice A n c] w fun e w' => e = .returned (.tuple #[.slice none 0 0, errV (checkF h).2]) ∧ Below w.heap.size w w' := by
  have CR := hide (dedges_no A n c h w hr hm hno)
  rw [ne_errV (show (checkF h).2 ≠ 0 from hno)] at CR ⊢
  generalize (checkF h).2 = ev at *
  clear hno hr
  go_enter Tryz.func11, Tryz.ntmps11
  go_wp2_with fail
  refine (unhide CR).mono ?_
  rintro e w1 ⟨rfl, hb1⟩
  go_wp2
  go_ret2
  exact ⟨rfl, hb1⟩
set_option maxRecDepth 100000 in
set_option maxHeartbeats 4000000 in
theorem dan_run (A : Option Addr) (n c : Nat) (h : List HOp) (w : World) (hr : Rd w w.heap.size 3 A n (cellsH h)) (hm : n ≤ 6000000000000) (hok : okH h) :
    Calls Tryz.prog 13 #[.slice A n c] w fun e w' => OutC w w' e (playV danR h).dn (seenOf (playV danR h)) (playV danR h).last := by
  have CR := hide (fun w1 (hb : Below w.heap.size w w1) => right_h A n c h w1 ((hr.below hb).more hb.size) hm)
  rw [show (checkF h).2 = 0 from hok] at CR
  have hlen := okH_len hok
  have hn : n ≤ 40 := by rw [← hr.hlen]; exact hlen
  have CP := hide (fun w1 (hb : Below w.heap.size w w1) => vplay_any (tk := 3) (tl := 3) A n c h danR (fun s d i => Nat.le_succ _) 28 29 #[] #[] #[] #[] w1 w1 none (.inl ⟨rfl, rfl⟩) (Below.refl _ _) ((hr.below hb).more hb.size) hn (okH_right hok) call_snapSee call_danMay
    (fun s L tag w2 d i H hk hd h1 h2 _ => ((fun w2 H hk hd h1 h2 => snapSee_any w2 H hk hd h1 h2 _) w2 H hk hd h1 h2).mono fun e w' ⟨he, hb⟩ => ⟨he, L, tag, Looked.none H hb⟩)
    (fun s L tag w2 d H hk hd _ => (danMay_any w2 H hk (by omega) hd).mono fun e w' ⟨he, hb⟩ => ⟨he, hb⟩))
  have HZ := hide (fun w1 (hb : Below (w.heap.size + 1) (w.alloc (.cells #[.slice none 0 0, .slice none 0 0, .slice none 0 0] 41)) w1) => (Blk.new w 41 [.slice none 0 0, .slice none 0 0, .slice none 0 0]).below hb (Nat.lt_succ_self _))
  have hb0 : Below w.heap.size w (w.alloc (.cells #[.slice none 0 0, .slice none 0 0, .slice none 0 0] 41)) := (Below.refl _ _).alloc (Nat.le_refl _) _
  have HB0 := hide hb0
  have hz0 : (w.alloc (.cells #[.slice none 0 0, .slice none 0 0, .slice none 0 0] 41)).heap.size = w.heap.size + 1 := by simp
  have HP : Hid (playV danR h = playV danR h) := Lib.hid rfl
  generalize playV danR h = s at *
  clear hr hok hb0 hlen
  go_enter Tryz.func13, Tryz.ntmps13
  go_wp2_with fail
  refine (unhide CR _ (unhide HB0)).mono ?_
  rintro e w1 ⟨rfl, hb1⟩
  have hbw1 := (unhide HB0).trans (hb1.mono (unhide HB0).size)
  have hz1 := hb1.size
  have hbz1 : Below (w.heap.size + 1) (w.alloc (.cells #[.slice none 0 0, .slice none 0 0, .slice none 0 0] 41)) w1 := hb1.mono (by omega)
  rw [errV_zero]
  go_wp2_with fail
  refine (unhide CP w1 hbw1).mono ?_
  rintro e w2 ⟨L, tag, rfl, hP2, hk2⟩
  have hb2 := hP2.below
  have hz2 := hb2.size
  have hlB := hP2.heap.last
  rw [hP2.gl] at hlB
  have hl6 := hk2.last
  have CO := hide (out_any w2 hP2.heap hk2 (by omega) (some ⟨w1.heap.size + 1, 0, none⟩) 6 6)
  have hbw2 := hbw1.trans (hb2.mono hbw1.size)
  have hbz2 := hbz1.trans (hb2.mono (by omega))
  clear hP2 hk2
  go_wp2_with fail
  refine (unhide CO).mono ?_
  rintro e w3 ⟨v1, v2, rfl, ho1, ho2, _, hb3⟩
  have hz3 := hb3.size
  have hbw3 := hbw2.trans (hb3.mono hbw2.size)
  have hB4 := unhide HZ w3 (hbz2.trans (hb3.mono (by omega)))
  have hl3 := hlB.below hb3 hlB.lt
  obtain ⟨A1, c1, rfl⟩ := own_slice ho1
  obtain ⟨A2, c2, rfl⟩ := own_slice ho2
  have x0 := hB4.cellS (i := 0) (v := .slice none 0 0) rfl
  have x1 := hB4.cellS (i := 1) (v := .slice none 0 0) rfl
  have x2 := hB4.cellS (i := 2) (v := .slice none 0 0) rfl
  have f0 := hB4.frozen 0
  have f1 := hB4.frozen 1
  have f2 := hB4.frozen 2
  have hR := ((hB4.put 0 (.slice A1 s.dn.length c1)).put 1 (.slice A2 (seenOf s).length c2)).put 2 (.slice (some ⟨w1.heap.size + 1, 0, none⟩) 6 6)
  have r0 := hR.cellS (i := 0) (v := .slice A1 s.dn.length c1) rfl
  have r1 := hR.cellS (i := 1) (v := .slice A2 (seenOf s).length c2) rfl
  have r2 := hR.cellS (i := 2) (v := .slice (some ⟨w1.heap.size + 1, 0, none⟩) 6 6) rfl
  have hbx := ((hbw3.setCell (p := ⟨w.heap.size, 0, none⟩) (Nat.le_refl _) (.slice A1 s.dn.length c1)).setCell (p := ⟨w.heap.size, 1, none⟩) (Nat.le_refl _) (.slice A2 (seenOf s).length c2)).setCell (p := ⟨w.heap.size, 2, none⟩) (Nat.le_refl _) (.slice (some ⟨w1.heap.size + 1, 0, none⟩) 6 6)
  have o1 := own_far (own_far (own_far ho1 (p := ⟨w.heap.size, 0, none⟩) (by simp; omega) (.slice A1 s.dn.length c1)) (p := ⟨w.heap.size, 1, none⟩) (by simp; omega) (.slice A2 (seenOf s).length c2)) (p := ⟨w.heap.size, 2, none⟩) (by simp; omega) (.slice (some ⟨w1.heap.size + 1, 0, none⟩) 6 6)
  have o2 := own_far (own_far (own_far ho2 (p := ⟨w.heap.size, 0, none⟩) (by simp; omega) (.slice A1 s.dn.length c1)) (p := ⟨w.heap.size, 1, none⟩) (by simp; omega) (.slice A2 (seenOf s).length c2)) (p := ⟨w.heap.size, 2, none⟩) (by simp; omega) (.slice (some ⟨w1.heap.size + 1, 0, none⟩) 6 6)
  have o3 := ((hl3.far (p := ⟨w.heap.size, 0, none⟩) (by simp; omega) (.slice A1 s.dn.length c1)).far (p := ⟨w.heap.size, 1, none⟩) (by simp; omega) (.slice A2 (seenOf s).length c2)).far (p := ⟨w.heap.size, 2, none⟩) (by simp; omega) (.slice (some ⟨w1.heap.size + 1, 0, none⟩) 6 6)
  have o4 := rd_own (own_blk o3 (base := 0) (size := 1) (n := 6) (Nat.zero_le _) (by decide) (by unfold cellsI; rw [List.length_map, hl6]))
  have HO := hide (And.intro (rd_own o1) (And.intro (rd_own o2) o4))
  have hcap := own_capV ho1
  clear o1 o2 o3 o4 ho1 ho2 hR hB4 hlB hl3
  go_wp2
  refine bodyPost_ret (v := .tuple #[.agg #[.slice A1 s.dn.length c1, .slice A2 (seenOf s).length c2, .slice (some ⟨w1.heap.size + 1, 0, none⟩) 6 6], .nilIface]) (by simp [results, Tryz.results13, go_sem, r0, r1, r2]) rfl ?_
  exact ⟨A1, c1, A2, c2, w1.heap.size + 1, _, _, rfl, (unhide HO).1, (unhide HO).2.1, (unhide HO).2.2, hbx, hcap⟩
set_option maxRecDepth 100000 in
set_option maxHeartbeats 4000000 in
theorem dan_no (A : Option Addr) (n c : Nat) (h : List HOp) (w : World) (hr : Rd w w.heap.size 3 A n (cellsH h)) (hm : n ≤ 6000000000000) (hno : ¬ okH h) :
    Calls Tryz.prog 13 #[.slice A n c] w fun e w' => e = .returned (.tuple #[.agg #[.slice none 0 0, .slice none 0 0, .slice none 0 0], errV (checkF h).2]) ∧ Below w.heap.size w w' := by
  have CR := hide (fun w1 (hb : Below w.heap.size w w1) => right_h A n c h w1 ((hr.below hb).more hb.size) hm)
  rw [ne_errV (show (checkF h).2 ≠ 0 from hno)] at CR ⊢
  generalize (checkF h).2 = ev at *
  have HZ := hide (fun w1 (hb : Below (w.heap.size + 1) (w.alloc (.cells #[.slice none 0 0, .slice none 0 0, .slice none 0 0] 41)) w1) => (Blk.new w 41 [.slice none 0 0, .slice none 0 0, .slice none 0 0]).below hb (Nat.lt_succ_self _))
  have hb0 : Below w.heap.size w (w.alloc (.cells #[.slice none 0 0, .slice none 0 0, .slice none 0 0] 41)) := (Below.refl _ _).alloc (Nat.le_refl _) _
  have HB0 := hide hb0
  have hz0 : (w.alloc (.cells #[.slice none 0 0, .slice none 0 0, .slice none 0 0] 41)).heap.size = w.heap.size + 1 := by simp
  clear hr hno hb0
  go_enter Tryz.func13, Tryz.ntmps13
  go_wp2_with fail
  refine (unhide CR _ (unhide HB0)).mono ?_
  rintro e w1 ⟨rfl, hb1⟩
  have hbw1 := (unhide HB0).trans (hb1.mono (unhide HB0).size)
  have hB4 := unhide HZ w1 (hb1.mono (by omega))
  have x0 := hB4.cellS (i := 0) (v := .slice none 0 0) rfl
  have x1 := hB4.cellS (i := 1) (v := .slice none 0 0) rfl
  have x2 := hB4.cellS (i := 2) (v := .slice none 0 0) rfl
  have f0 := hB4.frozen 0
  have f1 := hB4.frozen 1
  have f2 := hB4.frozen 2
  have hR := ((hB4.put 0 (.slice none 0 0)).put 1 (.slice none 0 0)).put 2 (.slice none 0 0)
  have r0 := hR.cellS (i := 0) (v := .slice none 0 0) rfl
  have r1 := hR.cellS (i := 1) (v := .slice none 0 0) rfl
  have r2 := hR.cellS (i := 2) (v := .slice none 0 0) rfl
  have hbx := ((hbw1.setCell (p := ⟨w.heap.size, 0, none⟩) (Nat.le_refl _) (.slice none 0 0)).setCell (p := ⟨w.heap.size, 1, none⟩) (Nat.le_refl _) (.slice none 0 0)).setCell (p := ⟨w.heap.size, 2, none⟩) (Nat.le_refl _) (.slice none 0 0)
  clear hR hB4 HZ HB0 CR
  go_wp2
  refine bodyPost_ret (v := .tuple #[.agg #[.slice none 0 0, .slice none 0 0, .slice none 0 0], .iface 67 (.int .i64 ev)]) (by simp [results, Tryz.results13, go_sem, r0, r1, r2]) rfl ?_
  exact ⟨rfl, hbx⟩
end Go.Proofs.YtfmdeahblaikoaaGreatDoor
