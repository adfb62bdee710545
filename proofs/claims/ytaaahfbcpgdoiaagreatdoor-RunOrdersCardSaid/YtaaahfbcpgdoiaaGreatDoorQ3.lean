
/-
  CONTRACTS of play.play, Values, Seen.
  CONTRACTS of strings.Join, history.Print.
-/
import Derived.Test.YtaaahfbcpgdoiaaGreatDoorQ1
import Derived.Deep.LoopGhost
import Derived.Test.YtaaahfbcpgdoiaaGreatDoorText
import Derived.Test.YtaaahfbcpgdoiaaGreatDoorQ0
import Derived.Test.YtaaahfbcpgdoiaaGreatDoorLaysS

namespace Go.Proofs.YtaaahfbcpgdoiaaGreatDoor
open Go.RowKit

def playGo (vs seen : List Int) (ds : List (Int × Int)) : List HOp → List Int × List Int
  | [] => (vs, seen)
  | o :: t =>
    if o.what = 1 then playGo vs (seen ++ [vs.getD (o.item.toNat - 1) 0]) (ds.set o.tx.toNat ((ds.getD o.tx.toNat (0, 0)).1 + 1, (ds.getD o.tx.toNat (0, 0)).2 + vs.getD (o.item.toNat - 1) 0)) t
    else if o.what = 2 then playGo (vs.set (o.item.toNat - 1) ((7 * o.tx + ((ds.getD o.tx.toNat (0, 0)).1 + 1) + (ds.getD o.tx.toNat (0, 0)).2) % 1000003)) seen (ds.set o.tx.toNat ((ds.getD o.tx.toNat (0, 0)).1 + 1, (ds.getD o.tx.toNat (0, 0)).2)) t
    else playGo vs seen (ds.set o.tx.toNat ((ds.getD o.tx.toNat (0, 0)).1 + 1, (ds.getD o.tx.toNat (0, 0)).2)) t
def playF (h : List HOp) : List Int × List Int := playGo (List.replicate 6 0) [] (List.replicate 7 (0, 0)) (doneL h)

def dcells (ds : List (Int × Int)) : List Value := ds.flatMap fun d => [.int .i64 d.1, .int .i64 d.2]
theorem dcells_at {ds : List (Int × Int)} {k : Nat} {d : Int × Int} (hk : ds[k]? = some d) : (dcells ds)[k * 2]? = some (.int .i64 d.1) ∧ (dcells ds)[k * 2 + 1]? = some (.int .i64 d.2) := by
  induction ds generalizing k with
  | nil => simp at hk
  | cons p t ih =>
    have e : dcells (p :: t) = [.int .i64 p.1, .int .i64 p.2] ++ dcells t := rfl
    cases k with
    | zero =>
      obtain rfl : p = d := by simpa using hk
      rw [e]; simp
    | succ k =>
      have hk' := ih (k := k) (by simpa using hk)
      have e0 : (k + 1) * 2 = k * 2 + 2 := by omega
      rw [e, e0]
      refine ⟨?_, ?_⟩ <;> rw [List.getElem?_append_right (by simp)]
      · exact hk'.1
      · exact hk'.2
theorem dcells_set (ds : List (Int × Int)) (i : Nat) (d : Int × Int) : ((dcells ds).set (i * 2) (.int .i64 d.1)).set (i * 2 + 1) (.int .i64 d.2) = dcells (ds.set i d) := by
  induction ds generalizing i with
  | nil => rfl
  | cons p t ih =>
    have e : dcells (p :: t) = [.int .i64 p.1, .int .i64 p.2] ++ dcells t := rfl
    cases i with
    | zero => rfl
    | succ i =>
      have e2 : dcells ((p :: t).set (i + 1) d) = [.int .i64 p.1, .int .i64 p.2] ++ dcells (t.set i d) := rfl
      have e0 : (i + 1) * 2 = i * 2 + 2 := by omega
      rw [e, e2, ← ih, e0]
      simp
theorem dcells_set1 (ds : List (Int × Int)) (i : Nat) (d d' : Int × Int) (hi : ds[i]? = some d) (h2 : d'.2 = d.2) : (dcells ds).set (i * 2) (.int .i64 d'.1) = dcells (ds.set i d') := by
  rw [← dcells_set, h2]
  have := (dcells_at hi).2
  have hl : i * 2 + 1 < (dcells ds).length := (List.getElem?_eq_some_iff.1 this).1
  have h3 : ((dcells ds).set (i * 2) (Value.int IntKind.i64 d'.1))[i * 2 + 1]? = some (.int .i64 d.2) := by rw [List.getElem?_set_ne (by omega)]; exact this
  obtain ⟨h4, h5⟩ := List.getElem?_eq_some_iff.1 h3
  rw [← h5, List.set_getElem_self]

theorem bds_set {ds : List (Int × Int)} {k : Nat} {i : Nat} {d : Int × Int} (h : ∀ d ∈ ds, 0 ≤ d.1 ∧ d.1 ≤ k ∧ 0 ≤ d.2 ∧ d.2 ≤ k * 1000003) (hd : 0 ≤ d.1 ∧ d.1 ≤ (k + 1 : Nat) ∧ 0 ≤ d.2 ∧ d.2 ≤ (k + 1 : Nat) * 1000003) :
    ∀ d' ∈ ds.set i d, 0 ≤ d'.1 ∧ d'.1 ≤ (k + 1 : Nat) ∧ 0 ≤ d'.2 ∧ d'.2 ≤ (k + 1 : Nat) * 1000003 := by
  intro d' hd'
  rcases List.mem_or_eq_of_mem_set hd' with h1 | rfl
  · have := h d' h1; omega
  · exact hd
theorem make6 (w : World) : (Instr.makeSlice 24 (.int .i64 6) (.int .i64 6)).run Tryz.prog w = .ok (.slice (some ⟨w.heap.size, 0, none⟩) 6 6) (w.alloc (.cells #[.int .i64 0, .int .i64 0, .int .i64 0, .int .i64 0, .int .i64 0, .int .i64 0] 3)) := by kernel_rfl

set_option maxRecDepth 100000 in
set_option maxHeartbeats 2000000 in
theorem play_any (A : Option Addr) (n cap : Nat) (h : List HOp) (w : World) (hr : Rd w w.heap.size 3 A n (cellsH h)) (hok : okH h) :
    Calls Tryz.prog 55 #[.slice A n cap] w fun e w' => ∃ v1 v2 m, e = .returned (.tuple #[v1, v2]) ∧ w'.ownsRow w.heap.size 3 1 v1 6 (cellsI (playF h).1) ∧ w'.ownsRow w.heap.size 3 1 v2 m (cellsI (playF h).2) ∧ Below w.heap.size w w' := by
  have hm : n ≤ 40 := by rw [← hr.hlen]; exact okH_len hok
  have HR := Lib.hid (okH_right hok)
  have htx := okH_tx hok
  have DC := fun W1 (hR : Rd W1 W1.heap.size 3 A n (cellsH h)) => doneOf_any A n cap h W1 hR (by omega) htx
  have HD := hide DC
  clear htx DC
  have hmk := make6
  go_enter Tryz.func55, Tryz.ntmps55
  go_wp2_with fail
  clear hmk
  refine Calls.mono (unhide HD _ ?_) ?_
  · exact ((hr.alloc (Nat.le_refl _) _).alloc (by simp) _).more (by simp; omega)
  rintro e w1 ⟨A1, m1, c1, rfl, hown1, hb1⟩
  have hz1 := hb1.size
  simp at hz1
  have hV : Blk w1 w.heap.size 3 (cellsI (List.replicate 6 0)) := ((Blk.new w 3 (cellsI (List.replicate 6 0))).alloc _).below hb1 (by simp; omega)
  have hD : Blk w1 (w.heap.size + 1) 193 (dcells (List.replicate 7 (0, 0))) := by
    have := (Blk.new (w.alloc (.cells (cellsI (List.replicate 6 0)).toArray 3)) 193 (dcells (List.replicate 7 (0, 0)))).below hb1 (by simp)
    simpa using this
  have hR1 : RdB w1 (w.heap.size + 2) w1.heap.size 3 A1 m1 (cellsH (doneL h)) := by simpa using rdb_own hown1
  have hbw1 : Below w.heap.size w w1 := (((Below.refl _ _).alloc (Nat.le_refl _) _).alloc (by simp) _).trans (hb1.mono (by simp; omega))
  have hL1 : m1 ≤ 40 := by
    have := hR1.rd.hlen
    have h2 : (doneL h).length ≤ h.length := List.length_filter_le _ _
    have := hr.hlen
    omega
  have HLM := Lib.hid hR1.rd.hlen
  have hzB : w.heap.size + 1 < w1.heap.size := by omega
  clear hb1 hown1
  go_wp2_with fail
  go_loopw [5, 15] (fun s5 i wr => ∃ (k m : Nat) (vs seen : List Int) (ds : List (Int × Int)), k ≤ m1 ∧ i = .int .i64 k ∧ vs.length = 6 ∧ ds.length = 7 ∧ Hid ((∀ v ∈ vs, 0 ≤ v ∧ v < 1000003) ∧ ∀ d ∈ ds, 0 ≤ d.1 ∧ d.1 ≤ k ∧ 0 ≤ d.2 ∧ d.2 ≤ k * 1000003) ∧
      Blk wr w.heap.size 3 (cellsI vs) ∧ Blk wr (w.heap.size + 1) 193 (dcells ds) ∧ wr.ownsRow w1.heap.size 3 1 s5 m (cellsI seen) ∧ m ≤ k ∧ RdB wr (w.heap.size + 2) w1.heap.size 3 A1 m1 (cellsH (doneL h)) ∧
      Hid (playF h = playGo vs seen ds ((doneL h).drop k)) ∧ Below w.heap.size w wr ∧ w1.heap.size ≤ wr.heap.size)
    (fun _ i _ => m1 - (intOf i).toNat)
  case atStart => exact ⟨0, 0, List.replicate 6 0, [], List.replicate 7 (0, 0), Nat.zero_le _, rfl, rfl, rfl, by constructor <;> simp, hV, hD, World.ownsRow_nil _ _ _ _, Nat.zero_le _, hR1, rfl, hbw1, Nat.le_refl _⟩
  case round =>
    obtain ⟨k, m, vs, seen, ds, hk, rfl, hvl, hdl, HBD, hVr, hDr, hownr, hmk, hRr, HE, hbw, hsz⟩ := hrel
    obtain ⟨A5, c5, rfl⟩ := own_slice hownr
    have hVlt := hVr.lt
    have hDlt := hDr.lt
    by_cases hlt : k < m1
    · obtain ⟨b, off, o, he, hb, ho, c0, c1, c2⟩ := hRr.rd.op (k := k) (by omega)
      cases he
      have hro := HR.out o ((List.mem_filter.1 (List.mem_of_getElem? ho)).1)
      obtain ⟨tx, what, item⟩ := o
      have HO : Hid ((doneL h).drop k = ⟨tx, what, item⟩ :: (doneL h).drop (k + 1)) := drop_at ho
      clear ho
      obtain ⟨h1, h2, _, _, h3, _⟩ := rightB_get hro
      simp only at h1 h2 h3
      have h4 : tx.toNat < 7 := by omega
      clear hro
      obtain ⟨⟨many, sum⟩, hd⟩ : ∃ d, ds[tx.toNat]? = some d := ⟨_, List.getElem?_eq_getElem (by omega)⟩
      have hbd := HBD.out.2 _ (List.mem_of_getElem? hd)
      obtain ⟨b1, b2, b3, b4⟩ := hbd
      simp only at b1 b2 b3 b4
      have e0 : wr.cell? ⟨w.heap.size + 1, tx.toNat * 2, none⟩ = some (.int .i64 many) := hDr.cellS (dcells_at hd).1
      have e1 : wr.cell? ⟨w.heap.size + 1, tx.toNat * 2 + 1, none⟩ = some (.int .i64 sum) := hDr.cellS (dcells_at hd).2
      have f0 : wr.frozen? ⟨w.heap.size + 1, tx.toNat * 2, none⟩ = false := hDr.frozen _
      have f1 : wr.frozen? ⟨w.heap.size + 1, tx.toNat * 2 + 1, none⟩ = false := hDr.frozen _
      have HD1 := Lib.hid hd
      have hdg : ds.getD tx.toNat (0, 0) = (many, sum) := by rw [List.getD_eq_getElem?_getD, hd]; rfl
      have HDG := Lib.hid hdg
      clear hd hdg
      by_cases hw1 : what = 1
      · subst hw1
        obtain ⟨i1, i2⟩ := h3 (by omega)
        obtain ⟨v, hv⟩ : ∃ v, vs[(item.toNat - 1)]? = some v := ⟨_, List.getElem?_eq_getElem (by omega)⟩
        obtain ⟨v1, v2⟩ := HBD.out.1 _ (List.mem_of_getElem? hv)
        have ev : wr.cell? ⟨w.heap.size, (item.toNat - 1), none⟩ = some (.int .i64 v) := hVr.cellS (by rw [cellsI, List.getElem?_map, hv]; rfl)
        have HV := Lib.hid hv
        clear hv
        have i3 : (item.toNat - 1) < 6 := by omega
        have HE2 : Hid (playF h = playGo vs (seen ++ [v]) (ds.set tx.toNat (many + 1, sum + v)) ((doneL h).drop (k + 1))) := Lib.hid (by rw [HE.out, HO.out]; simp [playGo, List.getD_eq_getElem?_getD, HV.out, HD1.out])
        have HB2 : Hid ((∀ v ∈ vs, 0 ≤ v ∧ v < 1000003) ∧ ∀ d ∈ ds.set tx.toNat (many + 1, sum + v), 0 ≤ d.1 ∧ d.1 ≤ (k + 1 : Nat) ∧ 0 ≤ d.2 ∧ d.2 ≤ (k + 1 : Nat) * 1000003) := Lib.hid ⟨HBD.out.1, bds_set HBD.out.2 (by simp; omega)⟩
        go_wp2_with (at_builtin; (refine wpList_app rfl (.tmp 39) (.tmp 41) _ rfl w1.heap.size slt_int (n := m) (xs := cellsI seen) (m := 1) (news := [.int .i64 v]) rfl (own_alloc (own_alloc (own_far hownr (p := ⟨w.heap.size + 1, tx.toNat * 2, none⟩) hzB _) _) _) rfl (rd_new' _ _ [.int .i64 v] (by simp) rfl) (one1 (x := .int .i64 v) rfl) (by omega) (by simp; omega) ?_; intro v5 w5 hown5 hg5 hb5 hat5 hne5; have hz5 := hb5.size; have hD5 := (((hDr.put (tx.toNat * 2) (.int .i64 (many + 1))).alloc _).alloc _).below hb5 hzB; have hV5 := (((hVr.far (p := ⟨w.heap.size + 1, tx.toNat * 2, none⟩) (by simp) (.int .i64 (many + 1))).alloc _).alloc _).below hb5 (by omega); have hR5 := (((hRr.set (p := ⟨w.heap.size + 1, tx.toNat * 2, none⟩) (by simp) (.int .i64 (many + 1))).alloc (by simp; omega) _).alloc (by simp; omega) _).below hb5 (Nat.le_refl _); have hw5 := (((hbw.setCell (p := ⟨w.heap.size + 1, tx.toNat * 2, none⟩) (by simp) (.int .i64 (many + 1))).alloc (by simp; omega) _).alloc (by simp; omega) _).trans (hb5.mono (by omega)); have e15 := hD5.cellS (i := tx.toNat * 2 + 1) (v := .int .i64 sum) (by rw [List.getElem?_set_ne (by omega)]; exact (dcells_at HD1.out).2); have f15 := hD5.frozen (tx.toNat * 2 + 1); clear hb5 hg5 hat5 hne5))
        simp at hz5
        go_roundw
        case rel => exact ⟨k + 1, m + 1, vs, seen ++ [v], ds.set tx.toNat (many + 1, sum + v), by omega, by go_num, hvl, by simp [hdl], HB2, hV5.far (p := ⟨w.heap.size + 1, tx.toNat * 2 + 1, none⟩) (by simp) _, by rw [← dcells_set]; exact hD5.put _ _, by rw [cellsI, List.map_append]; exact own_far hown5 (p := ⟨w.heap.size + 1, tx.toNat * 2 + 1, none⟩) hzB _, by omega, hR5.set (p := ⟨w.heap.size + 1, tx.toNat * 2 + 1, none⟩) (by simp) _, HE2, hw5.setCell (p := ⟨w.heap.size + 1, tx.toNat * 2 + 1, none⟩) (by simp) _, by simp; omega⟩
        case measure => simp [intOf]; omega
      have hne1 : (what == 1) = false := by simpa using hw1
      by_cases hw2 : what = 2
      · subst hw2
        clear hne1 hw1
        obtain ⟨i1, i2⟩ := h3 (by omega)
        obtain ⟨v, hv⟩ : ∃ v, vs[item.toNat - 1]? = some v := ⟨_, List.getElem?_eq_getElem (by omega)⟩
        have ev : wr.cell? ⟨w.heap.size, item.toNat - 1, none⟩ = some (.int .i64 v) := hVr.cellS (by rw [cellsI, List.getElem?_map, hv]; rfl)
        have fv : wr.frozen? ⟨w.heap.size, item.toNat - 1, none⟩ = false := hVr.frozen _
        clear hv
        have i3 : item.toNat - 1 < 6 := by omega
        have HE2 : Hid (playF h = playGo (vs.set (item.toNat - 1) ((7 * tx + (many + 1) + sum) % 1000003)) seen (ds.set tx.toNat (many + 1, sum)) ((doneL h).drop (k + 1))) := Lib.hid (by rw [HE.out, HO.out]; simp [playGo, List.getD_eq_getElem?_getD, HD1.out])
        have HB2 : Hid ((∀ v' ∈ vs.set (item.toNat - 1) ((7 * tx + (many + 1) + sum) % 1000003), 0 ≤ v' ∧ v' < 1000003) ∧ ∀ d ∈ ds.set tx.toNat (many + 1, sum), 0 ≤ d.1 ∧ d.1 ≤ (k + 1 : Nat) ∧ 0 ≤ d.2 ∧ d.2 ≤ (k + 1 : Nat) * 1000003) := Lib.hid ⟨fun v' hv' => by
          rcases List.mem_or_eq_of_mem_set hv' with h1 | rfl
          · exact HBD.out.1 v' h1
          · omega, bds_set HBD.out.2 (by simp; omega)⟩
        go_wp2
        go_region
        all_goals
          go_wp2
          go_roundw
          case rel => exact ⟨k + 1, m, vs.set (item.toNat - 1) ((7 * tx + (many + 1) + sum) % 1000003), seen, ds.set tx.toNat (many + 1, sum), by omega, by go_num, by simp [hvl], by simp [hdl], HB2,
            by rw [cellsI, List.map_set]; exact (((hVr.far (p := ⟨w.heap.size + 1, tx.toNat * 2, none⟩) (by simp) _).put _ _).alloc _).drew,
            by rw [← dcells_set1 ds tx.toNat (many, sum) (many + 1, sum) HD1.out rfl]; exact (((hDr.put _ _).far (p := ⟨w.heap.size, item.toNat - 1, none⟩) (by simp) _).alloc _).drew,
            (own_alloc (own_far (own_far hownr (p := ⟨w.heap.size + 1, tx.toNat * 2, none⟩) hzB _) (p := ⟨w.heap.size, item.toNat - 1, none⟩) (Nat.lt_of_succ_lt hzB) _) _).drew, by omega,
            (((hRr.set (p := ⟨w.heap.size + 1, tx.toNat * 2, none⟩) (by simp) _).set (p := ⟨w.heap.size, item.toNat - 1, none⟩) (by simp) _).alloc (by simp; omega) _).drew, HE2,
            (((hbw.setCell (p := ⟨w.heap.size + 1, tx.toNat * 2, none⟩) (by simp) _).setCell (p := ⟨w.heap.size, item.toNat - 1, none⟩) (by simp) _).alloc (by simp; omega) _).drew, by simp; omega⟩
          case measure => simp [intOf]; omega
      · have hne2 : (what == 2) = false := by simpa using hw2
        have HE2 : Hid (playF h = playGo vs seen (ds.set tx.toNat (many + 1, sum)) ((doneL h).drop (k + 1))) := Lib.hid (by rw [HE.out, HO.out]; simp [playGo, List.getD_eq_getElem?_getD, HD1.out, hw1, hw2])
        have HB2 : Hid ((∀ v ∈ vs, 0 ≤ v ∧ v < 1000003) ∧ ∀ d ∈ ds.set tx.toNat (many + 1, sum), 0 ≤ d.1 ∧ d.1 ≤ (k + 1 : Nat) ∧ 0 ≤ d.2 ∧ d.2 ≤ (k + 1 : Nat) * 1000003) := Lib.hid ⟨HBD.out.1, bds_set HBD.out.2 (by simp; omega)⟩
        go_wp2
        go_roundw
        case rel => exact ⟨k + 1, m, vs, seen, ds.set tx.toNat (many + 1, sum), by omega, by go_num, hvl, by simp [hdl], HB2, (hVr.far (p := ⟨w.heap.size + 1, tx.toNat * 2, none⟩) (by simp) _).alloc _, by rw [← dcells_set1 ds tx.toNat (many, sum) (many + 1, sum) HD1.out rfl]; exact (hDr.put _ _).alloc _, own_alloc (own_far hownr (p := ⟨w.heap.size + 1, tx.toNat * 2, none⟩) hzB _) _, by omega, (hRr.set (p := ⟨w.heap.size + 1, tx.toNat * 2, none⟩) (by simp) _).alloc (by simp; omega) _, HE2, (hbw.setCell (p := ⟨w.heap.size + 1, tx.toNat * 2, none⟩) (by simp) _).alloc (by simp; omega) _, by simp; omega⟩
        case measure => simp [intOf]; omega
    · have HF : Hid (playF h = (vs, seen)) := Lib.hid (by rw [HE.out, drop_end (by rw [HLM.out]; omega)]; rfl)
      have HO1 : Hid (wr.ownsRow w.heap.size 3 1 (.slice (some ⟨w.heap.size, 0, none⟩) 6 6) 6 (cellsI vs)) := Lib.hid (own_blk hVr (Nat.le_refl _) (by decide) (by simp [cellsI, hvl]))
      go_wp2
      go_ret2
      exact ⟨_, _, m, rfl, by rw [HF.out]; exact HO1.out, by rw [HF.out]; exact own_mono hownr (by omega), hbw⟩

theorem ne_errV {e : Int} (h : e ≠ 0) : errV e = .iface 51 (.int .i64 e) := if_neg h
theorem errV_zero : errV 0 = .nilIface := rfl

set_option maxHeartbeats 400000 in
theorem values_any (A : Option Addr) (n cap : Nat) (h : List HOp) (w : World) (hr : Rd w w.heap.size 3 A n (cellsH h)) (hm : n ≤ 6000000000000) :
    (okH h → Calls Tryz.prog 26 #[.slice A n cap] w fun e w' => ∃ v, e = .returned (.tuple #[v, .nilIface]) ∧ w'.ownsRow w.heap.size 3 1 v 6 (cellsI (playF h).1) ∧ Below w.heap.size w w') ∧
    (¬ okH h → Calls Tryz.prog 26 #[.slice A n cap] w fun e w' => e = .returned (.tuple #[.slice none 0 0, errV (checkF h).2]) ∧ Below w.heap.size w w') := by
  have C := right_h A n cap h w hr hm
  refine ⟨fun hok => ?_, fun hno => ?_⟩
  · have CP := fun w1 (hb : Below w.heap.size w w1) => play_any A n cap h w1 ((hr.below hb).more hb.size) hok
    have HP := hide CP
    clear CP
    rw [show (checkF h).2 = 0 from hok, errV_zero] at C
    have HC := hide C
    clear C hok
    go_enter Tryz.func26, Tryz.ntmps26
    go_wp2_with (go_at_call 46; refine (unhide HC).mono ?_; rintro e w1 ⟨rfl, hb1⟩)
    refine (unhide HP w1 hb1).mono ?_
    rintro e w2 ⟨v1, v2, m, rfl, ho1, ho2, hb2⟩
    go_wp2
    go_ret2
    exact ⟨_, rfl, own_mono ho1 hb1.size, hb1.trans (hb2.mono hb1.size)⟩
  · rw [ne_errV (show (checkF h).2 ≠ 0 from hno)] at C ⊢
    generalize (checkF h).2 = ev at *
    have HC := hide C
    clear C hno
    go_enter Tryz.func26, Tryz.ntmps26
    go_wp2_with (go_at_call 46; refine (unhide HC).mono ?_; rintro e w1 ⟨rfl, hb1⟩)
    go_ret2
    exact ⟨rfl, hb1⟩

end Go.Proofs.YtaaahfbcpgdoiaaGreatDoor


namespace Go.Proofs.YtaaahfbcpgdoiaaGreatDoor
open Go.RowKit Go.Shelf

theorem bxJoin : Builder.Extra Tryz.prog Tryz.lJoin_ren where
  sizeBuilder := by kernel_rfl
  liesBuilder := by kernel_rfl
  t5 := Tryz.underlying5
  a5 := Tryz.isAgg5
  z5 := Tryz.sizeOf5
  v5 := Tryz.zeroValue5
  infoByte := by kernel_rfl
  cellsByte := by kernel_rfl
  sizeByte := by kernel_rfl
  neB5 := by decide
/-- The cells of a list of strings. -/
def cellsS (l : List (List UInt8)) : List Value := l.map fun x => .string ⟨x.toArray⟩
theorem cellsS_len (l : List (List UInt8)) : (cellsS l).length = l.length := by simp [cellsS]
theorem oneS (l : List (List UInt8)) : ∀ u ∈ cellsS l, u.oneCell' = true := by
  intro u hu
  obtain ⟨x, _, rfl⟩ := List.mem_map.1 hu
  rfl
theorem own_capS {w : World} {base : Nat} {e : TypeId} {size : Nat} {A : Option Addr} {n c : Nat} {xs : List Value} (h : w.ownsRow base e size (.slice A n c) n xs) : n ≤ c := by
  obtain ⟨_, ⟨he, h0⟩ | ⟨g, cap, cur, he, _, _, h1, _⟩⟩ := h
  · omega
  · injection he with e1 e2 e3; omega
/-- An outcome: who is done, what was seen, who wrote last. -/
theorem slt_strs : SlT Tryz.prog 88 9 1 16 := slt_of (z := .string ByteArray.empty) Tryz.underlying88 (by kernel_rfl) (by decide) (by decide) (by decide)
theorem Rd.slen {w : World} {B n : Nat} {A : Option Addr} {l : List (List UInt8)} (h : Rd w B 1 A n (cellsS l)) : l.length = n := by
  have hl := h.1
  rw [cellsS_len] at hl
  omega
/-- strings.Join, with what stands between as literal bytes. -/
theorem join_any (A : Option Addr) (n c : Nat) (l : List (List UInt8)) (sep : List UInt8) (w : World) (hr : Rd w w.heap.size 1 A n (cellsS l)) (hc : n ≤ c) (hlen : (sep.intercalate l).length ≤ 1000000) (hn : n ≤ 1000000) :
    Calls Tryz.prog 110 #[.slice A n c, .string ⟨sep.toArray⟩] w fun e w' => e = .returned (.string ⟨(sep.intercalate l).toArray⟩) ∧ Below w.heap.size w w' := by
  have hl := hr.slen
  by_cases h0 : n = 0
  · subst h0
    have hl0 : l = [] := List.length_eq_zero_iff.1 hl
    subst hl0
    exact (Any.strings_Join_none Tryz.lJoin bxJoin A c ⟨sep.toArray⟩ w).mono fun e w' ⟨h1, h2⟩ => ⟨h1, by rw [h2]; exact Below.refl _ _⟩
  · obtain ⟨b, off, rfl, hb, hcell⟩ := hr.2 (by omega)
    have hx : (l.map fun x => (⟨x.toArray⟩ : ByteArray)).map (·.data.toList) = l := by
      rw [List.map_map]
      conv => rhs; rw [← List.map_id l]
      exact List.map_congr_left fun x _ => by simp
    have hlx : (l.map fun x => (⟨x.toArray⟩ : ByteArray)).length = n := by rw [List.length_map, hl]
    have J := Any.strings_Join Tryz.lJoin bxJoin b off c (l.map fun x => (⟨x.toArray⟩ : ByteArray)) ⟨sep.toArray⟩ w (fun j x hj => hcell j _ (by
      rw [List.getElem?_map] at hj
      rw [cellsS, List.getElem?_map]
      cases hq : l[j]? with
      | none => rw [hq] at hj; cases hj
      | some y => rw [hq] at hj; injection hj with hj; rw [← hj]; rfl)) hb (by rw [hlx]; omega) (by rw [hlx]; exact hc) (by
      rw [hx]
      show (Go.Lib.join l sep.toArray.toList).length ≤ _
      rw [show sep.toArray.toList = sep by simp]
      unfold Go.Lib.join
      omega)
    rw [hlx, hx] at J
    refine J.mono fun e w' ⟨h1, h2⟩ => ⟨h1.trans ?_, h2⟩
    show Ending.returned (.string ⟨(Go.Lib.join l sep.toArray.toList).toArray⟩) = _
    rw [show sep.toArray.toList = sep by simp]
    rfl

set_option maxRecDepth 100000 in
set_option maxHeartbeats 2000000 in
theorem print_any (A : Option Addr) (n cap : Nat) (h : List HOp) (w : World) (hr : Rd w w.heap.size 3 A n (cellsH h)) (hok : okH h) :
    Calls Tryz.prog 59 #[.slice A n cap] w fun e w' => e = .returned (.tuple #[.string ⟨(printL h).toArray⟩, .nilIface]) ∧ Below w.heap.size w w' := by
  have hn : n ≤ 40 := by rw [← hr.hlen]; exact okH_len hok
  have C := right_h A n cap h w hr (by omega)
  rw [show (checkF h).2 = 0 from hok, errV_zero] at C
  have HC := hide C
  have HL := Lib.hid hr.hlen
  have HR := Lib.hid (okH_right hok)
  have HP : Hid (([32] : List UInt8).intercalate (h.map textL) = printL h ∧ (printL h).length ≤ 1000000) := Lib.hid ⟨rfl, by
    have := printL_len h (okH_right hok)
    have := okH_len hok
    omega⟩
  clear C hok
  go_enter Tryz.func59, Tryz.ntmps59
  go_wp2_with fail
  refine (unhide HC).mono ?_
  rintro e w1 ⟨rfl, hb1⟩
  go_wp2
  go_loopw [5, 15] (fun s5 s15 wr => ∃ k : Nat, k ≤ n ∧ s15 = .int .i64 k ∧ wr.ownsRow w.heap.size 9 1 s5 k (cellsS ((h.take k).map textL)) ∧ Below w.heap.size w wr) (fun _ s15 _ => n - (intOf s15).toNat)
  case atStart => exact ⟨0, Nat.zero_le _, rfl, World.ownsRow_nil _ _ _ _, hb1⟩
  case round =>
    clear hb1 HC
    obtain ⟨k, hk, rfl, hown, hbw⟩ := hrel
    obtain ⟨A5, c5, rfl⟩ := own_slice hown
    by_cases hlt : k < n
    · obtain ⟨b, off, o, he, hb, ho, c0, c1, c2⟩ := (hr.below hbw).op (k := k) (by omega)
      cases he
      have hro := HR.out o (List.mem_of_getElem? ho)
      have HT : Hid ((h.take k).map textL ++ [textL o] = (h.take (k + 1)).map textL) := Lib.hid (by rw [List.take_add_one, ho]; simp)
      have CT := hide (fun W => text_any o hro W)
      obtain ⟨o1, o2, o3⟩ := o
      simp only at c0 c1 c2
      unfold HOp.val at CT
      generalize textL ⟨o1, o2, o3⟩ = tl at *
      clear ho hro
      have hz := hbw.size
      have hb4 : Below w.heap.size w (wr.alloc (.cells #[.int .i64 o1, .int .i64 o2, .int .i64 o3] 91)) := hbw.alloc hz _
      have ho4 := own_alloc hown (.cells #[.int .i64 o1, .int .i64 o2, .int .i64 o3] 91)
      clear hown
      go_wp2_with fail
      refine (unhide CT _).mono ?_
      rintro e w5 ⟨rfl, hb5⟩
      have ho5 := own_below ho4 hb5 (Nat.le_refl _)
      have hbw5 := hb4.trans (hb5.mono hb4.size)
      clear ho4 hb4 hb5
      have hz5 := hbw5.size
      go_wp2_with (at_builtin; refine wpList_app rfl (.tmp 19) (.tmp 22) _ rfl w.heap.size slt_strs (n := k) (xs := cellsS ((h.take k).map textL)) (m := 1) (news := cellsS [tl]) rfl (own_alloc ho5 _) rfl (rd_new' _ _ (cellsS [tl]) (by simp) rfl) (oneS _) (by omega) (by simp; omega) ?_; intro v6 w6 hown6 hg6 hb6 hat6 hne6)
      have hb7 := (hbw5.alloc hz5 (.cells (cellsS [tl]).toArray 9)).trans hb6
      have e1 : cellsS ((h.take k).map textL) ++ cellsS [tl] = cellsS ((h.take (k + 1)).map textL) := by rw [← HT.out]; simp [cellsS]
      rw [e1] at hown6
      clear e1
      go_roundw
      case rel => exact ⟨k + 1, by omega, by go_num, hown6, hb7⟩
      case measure => simp [intOf]; omega
    · obtain rfl : k = n := by omega
      have hd := rd_own hown
      rw [List.take_of_length_le (by rw [HL.out]; omega)] at hd
      obtain ⟨hn0, hcap⟩ : k ≤ 40 ∧ k ≤ c5 := ⟨hn, own_capS hown⟩
      have CJ := hide (join_any A5 k c5 (h.map textL) [32] wr hd hcap (by rw [HP.out.1]; exact HP.out.2) (by omega))
      rw [HP.out.1] at CJ
      clear hd hown
      go_wp2_with fail
      refine (unhide CJ).mono ?_
      rintro e w5 ⟨rfl, hb5⟩
      have hbw5 := hbw.trans (hb5.mono hbw.size)
      go_wp2
      go_ret2
      exact ⟨rfl, hbw5⟩
theorem print_no (A : Option Addr) (n cap : Nat) (h : List HOp) (w : World) (hr : Rd w w.heap.size 3 A n (cellsH h)) (hm : n ≤ 6000000000000) (hno : ¬ okH h) :
    Calls Tryz.prog 59 #[.slice A n cap] w fun e w' => e = .returned (.tuple #[.string ⟨#[]⟩, errV (checkF h).2]) ∧ Below w.heap.size w w' := by
  have C := right_h A n cap h w hr hm
  rw [ne_errV (show (checkF h).2 ≠ 0 from hno)] at C ⊢
  generalize (checkF h).2 = ev at *
  have HC := hide C
  clear C hno
  go_enter Tryz.func59, Tryz.ntmps59
  go_wp2_with fail
  refine (unhide HC).mono ?_
  rintro e w1 ⟨rfl, hb1⟩
  go_wp2
  go_ret2
  exact ⟨rfl, hb1⟩
end Go.Proofs.YtaaahfbcpgdoiaaGreatDoor
