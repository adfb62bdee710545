
/-
  CONTRACTS of snap.AtOnce, snap.Deals.
  PLAIN: edges between deals, by a rule of two.
  CONTRACT of snap.Together: which deals ran at once.
-/
import Derived.Test.YtfmdeahblaikoaaGreatDoorBG7
import Derived.Deep.RegionHeld3
import Derived.Test.YtfmdeahblaikoaaGreatDoorVQ2
import Derived.Test.YtfmdeahblaikoaaGreatDoorSortP
import Derived.Test.YtfmdeahblaikoaaGreatDoorSortE

namespace Go.Proofs.YtfmdeahblaikoaaGreatDoor
open Go.RowKit

set_option maxHeartbeats 2000000 in
theorem atOnce_any (ga gb : Nat) (xa ba ea xb bb eb : Int) (va vb vc ua ub uc : Value) (w : World) (ha : Blk w ga 85 [.int .i64 xa, .int .i64 ba, .int .i64 ea, va, vb, vc]) (hb : Blk w gb 85 [.int .i64 xb, .int .i64 bb, .int .i64 eb, ua, ub, uc]) :
    Calls Tryz.prog 34 #[.pointer (some ⟨ga, 0, none⟩), .pointer (some ⟨gb, 0, none⟩)] w fun e w' => e = .returned (.bool ((decide (eb < 0) || decide (ba < eb)) && (decide (ea < 0) || decide (bb < ea)))) ∧ ∃ m, w' = w.drewN m := by
  have e1 := ha.cellS (i := 1) (v := .int .i64 ba) rfl
  have e2 := ha.cellS (i := 2) (v := .int .i64 ea) rfl
  have f1 := hb.cellS (i := 1) (v := .int .i64 bb) rfl
  have f2 := hb.cellS (i := 2) (v := .int .i64 eb) rfl
  clear ha hb
  obtain ⟨p, hp⟩ : ∃ p : Bool, decide (eb < 0) = p := ⟨_, rfl⟩
  obtain ⟨q, hq⟩ : ∃ q : Bool, decide (ba < eb) = q := ⟨_, rfl⟩
  obtain ⟨r, hr⟩ : ∃ r : Bool, decide (ea < 0) = r := ⟨_, rfl⟩
  obtain ⟨t, ht⟩ : ∃ t : Bool, decide (bb < ea) = t := ⟨_, rfl⟩
  rw [hp, hq, hr, ht]
  cases p
  · cases q
    · go_enter Tryz.func34, Tryz.ntmps34
      go_wp2
      go_quiet (fail)
      go_wp2
      go_ret
      exact ⟨by simp, _, rfl⟩
    · cases r
      · cases t
        all_goals
          go_enter Tryz.func34, Tryz.ntmps34
          go_wp2
          go_quiet (fail)
          go_wp2
          go_ret
          exact ⟨by simp, _, rfl⟩
      · go_enter Tryz.func34, Tryz.ntmps34
        go_wp2
        go_quiet (fail)
        go_wp2
        go_ret
        exact ⟨by simp, _, rfl⟩
  · cases r
    · cases t
      all_goals
        go_enter Tryz.func34, Tryz.ntmps34
        go_wp2
        go_quiet (fail)
        go_wp2
        go_ret
        exact ⟨by simp, _, rfl⟩
    · go_enter Tryz.func34, Tryz.ntmps34
      go_wp2
      go_quiet (fail)
      go_wp2
      go_ret
      exact ⟨by simp, _, rfl⟩
/-- A deal of a state, by its number. -/
def dgd (s : VSt) (t : Int) : Dl := (dget s.ds t).getD ⟨t, 0, 0, [], [], []⟩
theorem doneD_dgd (s : VSt) : doneD s = s.dn.map (dgd s) := rfl
set_option maxHeartbeats 2000000 in
theorem deals_any (A : Option Addr) (n c : Nat) (h : List HOp) (w : World) (hr : Rd w w.heap.size 3 A n (cellsH h)) (hok : okH h) :
    Calls Tryz.prog 23 #[.slice A n c] w fun e w' => ∃ L tag, e = .returned L.vd ∧ VHeap (vT 3 3) w.heap.size w' (playV snapR h) L tag ∧ VOk 40 (playV snapR h) ∧ Below w.heap.size w w' := by
  have hn : n ≤ 40 := by rw [← hr.hlen]; exact okH_len hok
  have CP := hide (vplay_any (tk := 3) (tl := 3) A n c h snapR (fun s d i => Nat.le_succ _) 28 38 #[] #[] #[] #[] w w none (.inl ⟨rfl, rfl⟩) (Below.refl _ _) hr hn (okH_right hok) call_snapSee call_snapMay
    (fun s L tag w2 d i H hk hd h1 h2 _ => (snapSee_any w2 H hk hd h1 h2 _).mono fun e w' ⟨he, hb⟩ => ⟨he, L, tag, Looked.none H hb⟩)
    (fun s L tag w2 d H hk hd _ => (snapMay_any w2 H hk (by omega) hd).mono fun e w' ⟨he, hb⟩ => ⟨he, hb⟩))
  generalize playV snapR h = s at *
  clear hr hok
  go_enter Tryz.func23, Tryz.ntmps23
  go_wp2_with fail
  refine (unhide CP).mono ?_
  rintro e w2 ⟨L, tag, rfl, hP2, hk2⟩
  obtain ⟨Ad, cd, hvd⟩ := own_slice hP2.heap.done
  have HP := hide hP2
  have HK := Lib.hid hk2
  rw [hvd]
  clear hP2 hk2 CP
  go_wp2
  go_ret
  exact ⟨L, tag, by rw [hvd]; rfl, (unhide HP).heap, ⟨by have := HK.out.dn; omega, HK.out.last, by have := HK.out.looks; omega, fun d hd => by
    have h := HK.out.deals d hd
    exact ⟨by have := h.seen; omega, by have := h.wrote; omega, h.items, h.snap, h.tx, ⟨h.began.1, by have := h.began.2; omega⟩, ⟨h.ended.1, by have := h.ended.2; omega⟩⟩⟩, (unhide HP).below⟩
end Go.Proofs.YtfmdeahblaikoaaGreatDoor


namespace Go.Proofs.YtfmdeahblaikoaaGreatDoor
open Go.RowKit

def rawP (p : Dl → Dl → Bool) (ds : List Dl) : List (Int × Int) := ds.flatMap fun a => (ds.filter (p a)).map fun b => (a.tx, b.tx)
def togD (a b : Dl) : Bool := decide (a.tx < b.tx) && atOnceD a b
theorem filt_snoc {α β : Type} {ds : List α} {j : Nat} {e : α} (he : ds[j]? = some e) (p : α → Bool) (g : α → β) : ((ds.take (j + 1)).filter p).map g = ((ds.take j).filter p).map g ++ (if p e then [g e] else []) := by
  rw [List.take_add_one, he, List.filter_append, List.map_append]
  congr 1
  show List.map g (List.filter p [e]) = _
  cases h : p e <;> simp [h]
theorem flat_snoc {α β : Type} {ds : List α} {j : Nat} {e : α} (he : ds[j]? = some e) (f : α → List β) : (ds.take (j + 1)).flatMap f = (ds.take j).flatMap f ++ f e := by
  rw [List.take_add_one, he]; simp
theorem mem_rawP {p : Dl → Dl → Bool} {ds : List Dl} {x : Int × Int} : x ∈ rawP p ds ↔ ∃ a ∈ ds, ∃ b ∈ ds, p a b = true ∧ x = (a.tx, b.tx) := by
  unfold rawP
  rw [List.mem_flatMap]
  constructor
  · rintro ⟨a, ha, h⟩
    obtain ⟨b, hb, rfl⟩ := List.mem_map.1 h
    obtain ⟨hb, hp⟩ := List.mem_filter.1 hb
    exact ⟨a, ha, b, hb, hp, rfl⟩
  · rintro ⟨a, ha, b, hb, hp, rfl⟩
    exact ⟨a, ha, List.mem_map.2 ⟨b, List.mem_filter.2 ⟨hb, hp⟩, rfl⟩⟩
/-- Who is between, of edges. -/
def pivL (E : List (Int × Int)) : List Int := [1, 2, 3, 4, 5, 6].filter fun t => (E.any fun e => decide (e.2 = t)) && E.any fun e => decide (e.1 = t)
theorem pivL_anti (ds : List Dl) : pivL (sortS ltE (rawP antiD ds)) = pivsD ds := by
  unfold pivL pivsD
  congr 1
  funext t
  unfold pivB
  have h1 : ((sortS ltE (rawP antiD ds)).any fun e => decide (e.2 = t)) = ds.any fun a => ds.any fun b => antiD a b && decide (b.tx = t) := by
    rw [Bool.eq_iff_iff, List.any_eq_true, List.any_eq_true]
    constructor
    · rintro ⟨x, hx, h⟩
      obtain ⟨a, ha, b, hb, hp, rfl⟩ := mem_rawP.1 (mem_sortS.1 hx)
      exact ⟨a, ha, List.any_eq_true.2 ⟨b, hb, by rw [hp]; exact h⟩⟩
    · rintro ⟨a, ha, h⟩
      obtain ⟨b, hb, h⟩ := List.any_eq_true.1 h
      rw [Bool.and_eq_true] at h
      exact ⟨(a.tx, b.tx), mem_sortS.2 (mem_rawP.2 ⟨a, ha, b, hb, h.1, rfl⟩), h.2⟩
  have h2 : ((sortS ltE (rawP antiD ds)).any fun e => decide (e.1 = t)) = ds.any fun a => ds.any fun b => antiD a b && decide (a.tx = t) := by
    rw [Bool.eq_iff_iff, List.any_eq_true, List.any_eq_true]
    constructor
    · rintro ⟨x, hx, h⟩
      obtain ⟨a, ha, b, hb, hp, rfl⟩ := mem_rawP.1 (mem_sortS.1 hx)
      exact ⟨a, ha, List.any_eq_true.2 ⟨b, hb, by rw [hp]; exact h⟩⟩
    · rintro ⟨a, ha, h⟩
      obtain ⟨b, hb, h⟩ := List.any_eq_true.1 h
      rw [Bool.and_eq_true] at h
      exact ⟨(a.tx, b.tx), mem_sortS.2 (mem_rawP.2 ⟨a, ha, b, hb, h.1, rfl⟩), h.2⟩
  rw [h1, h2]
end Go.Proofs.YtfmdeahblaikoaaGreatDoor


namespace Go.Proofs.YtfmdeahblaikoaaGreatDoor
open Go.RowKit

end Go.Proofs.YtfmdeahblaikoaaGreatDoor
