
/-
  CONTRACTS of the reference's laneref2.who, read, AtOnce, Pivots: a row of deals that lie one behind the other (DRow).
-/
import Derived.Test.YtfmdeahblaikoaaDoorRR0
import Derived.Test.YtfmdeahblaikoaaDoorPieces
import Derived.Test.YtfmdeahblaikoaaDoorM7
import Derived.Deep.QuietTactic
import Derived.BigQuiet
import Derived.Deep.RegionHeld3

namespace Go.Proofs.YtfmdeahblaikoaaDoor
open Go.RowKit

/-- A row of deals reads so. -/
def DRow (w : World) (B : Nat) (A : Option Addr) (n : Nat) (ds : List Dl) : Prop :=
  ds.length = n ∧ ∀ k, k < n → ∃ b off d As ns cs Aw nw cw, A = some ⟨b, off, none⟩ ∧ b < B ∧ ds[k]? = some d ∧
    w.cell? ⟨b, off + k * 5, none⟩ = some (.int .i64 d.tx) ∧ w.cell? ⟨b, off + k * 5 + 1, none⟩ = some (.int .i64 d.began) ∧ w.cell? ⟨b, off + k * 5 + 2, none⟩ = some (.int .i64 d.ended) ∧
    w.cell? ⟨b, off + k * 5 + 3, none⟩ = some (.slice As ns cs) ∧ w.cell? ⟨b, off + k * 5 + 4, none⟩ = some (.slice Aw nw cw) ∧ Rd w B 3 As ns (cellsH d.seen) ∧ Rd w B 1 Aw nw (cellsI d.wrote)
theorem DRow.keep {w w' : World} {B : Nat} {A : Option Addr} {n : Nat} {ds : List Dl} (h : DRow w B A n ds) (hk : ∀ p : Addr, p.block < B → w'.cell? p = w.cell? p) : DRow w' B A n ds :=
  ⟨h.1, fun k hlt => by
    obtain ⟨b, off, d, As, ns, cs, Aw, nw, cw, e, hb, hd, c0, c1, c2, c3, c4, h3, h4⟩ := h.2 k hlt
    exact ⟨b, off, d, As, ns, cs, Aw, nw, cw, e, hb, hd, (hk _ hb).trans c0, (hk _ hb).trans c1, (hk _ hb).trans c2, (hk _ hb).trans c3, (hk _ hb).trans c4, h3.keep hk, h4.keep hk⟩⟩
theorem DRow.below {w w' : World} {B : Nat} {A : Option Addr} {n : Nat} {ds : List Dl} (h : DRow w B A n ds) (hb : Below B w w') : DRow w' B A n ds := h.keep fun _ hp => hb.cell hp
theorem DRow.more {w : World} {B B' : Nat} {A : Option Addr} {n : Nat} {ds : List Dl} (h : DRow w B A n ds) (hB : B ≤ B') : DRow w B' A n ds :=
  ⟨h.1, fun k hlt => by
    obtain ⟨b, off, d, As, ns, cs, Aw, nw, cw, e, hb, hd, c0, c1, c2, c3, c4, h3, h4⟩ := h.2 k hlt
    exact ⟨b, off, d, As, ns, cs, Aw, nw, cw, e, by omega, hd, c0, c1, c2, c3, c4, h3.more hB, h4.more hB⟩⟩
/-- A deal's value. -/
def dVal (d : Dl) (vs vw : Value) : Value := .agg #[.int .i64 d.tx, .int .i64 d.began, .int .i64 d.ended, vs, vw]

set_option maxRecDepth 100000 in
set_option maxHeartbeats 4000000 in
theorem who_any (A : Option Addr) (n c : Nat) (ds : List Dl) (item time below : Int) (w : World) (hr : DRow w w.heap.size A n ds) (hn : n ≤ 100) (hw : ∀ d ∈ ds, d.wrote.length ≤ 1000) :
    Calls Tryd.prog 74 #[.slice A n c, .int .i64 item, .int .i64 time, .int .i64 below] w fun e w' => e = .returned (.int .i64 (whoT ds item time below)) ∧ w = w' := by
  have HR := hide hr
  have HW := Lib.hid hw
  clear hr hw
  go_enter Tryd.func74, Tryd.ntmps74
  go_wp2
  go_loop [9, 10] (fun s9 s10 => ∃ (k : Nat) (f : Int), k ≤ n ∧ s10 = .int .i64 k ∧ s9 = .int .i64 f ∧ Hid (whoT ds item time below = (ds.drop k).foldl (whoStep item time below) f)) (fun _ s10 => n - (intOf s10).toNat)
  case atStart => exact ⟨0, 0, Nat.zero_le _, rfl, rfl, Lib.hid rfl⟩
  case round =>
    obtain ⟨k, f, hk, rfl, rfl, HE⟩ := hrel
    by_cases hlt : k < n
    · obtain ⟨b, off, d, As, ns, cs, Aw, nw, cw, he, hb, hd, c0, c1, c2, c3, c4, h3, h4⟩ := (unhide HR).2 k hlt
      cases he
      have HS : Hid (whoT ds item time below = (ds.drop (k + 1)).foldl (whoStep item time below) (whoStep item time below f d)) := Lib.hid (by rw [HE.out, drop_at hd]; rfl)
      have hwl : nw ≤ 1000 := by rw [← h4.ilen]; exact HW.out d (List.mem_of_getElem? hd)
      have CI := hide (rin_any Aw nw cw d.wrote item w _ h4 (by omega))
      obtain ⟨p, hp⟩ : ∃ p : Bool, decide (item ∈ d.wrote) = p := ⟨_, rfl⟩
      rw [hp] at CI
      have HP := Lib.hid hp
      obtain ⟨d1, d2, d3, d4, d5, d6⟩ := d
      simp only at c0 c1 c2 c3 c4 HS HP CI
      clear hp hd h3 h4 c1 c3 HE
      cases p
      · have HF : Hid (whoT ds item time below = (ds.drop (k + 1)).foldl (whoStep item time below) f) := Lib.hid (by rw [HS.out]; unfold whoStep; rw [if_neg (fun e => of_decide_eq_false HP.out e.1)])
        go_wp2_with fail
        refine (unhide CI).mono ?_
        rintro e w1 ⟨rfl, rfl⟩
        go_wp2
        go_round
        case rel => exact ⟨k + 1, f, by omega, by go_num, rfl, HF⟩
        case measure => simp [intOf]; omega
      · by_cases ht : time ≤ d3
        · have HF : Hid (whoT ds item time below = (ds.drop (k + 1)).foldl (whoStep item time below) f) := Lib.hid (by rw [HS.out]; unfold whoStep; rw [if_neg (fun e => by have := e.2; simp at this; omega)])
          go_wp2_with fail
          refine (unhide CI).mono ?_
          rintro e w1 ⟨rfl, rfl⟩
          go_wp2
          go_round
          case rel => exact ⟨k + 1, f, by omega, by go_num, rfl, HF⟩
          case measure => simp [intOf]; omega
        · have hst : ∀ y, whoStep item time below f ⟨d1, d2, d3, d4, d5, d6⟩ = y → whoT ds item time below = (ds.drop (k + 1)).foldl (whoStep item time below) y := fun y e => by rw [HS.out, e]
          have hin : item ∈ d5 ∧ d3 < time := ⟨of_decide_eq_true HP.out, by omega⟩
          by_cases hz : below = 0
          · have HF : Hid (whoT ds item time below = (ds.drop (k + 1)).foldl (whoStep item time below) d1) := Lib.hid (hst _ (by unfold whoStep; rw [if_pos hin, if_pos hz]))
            have tz : (below == 0) = true := by simp [hz]
            clear hst hin hz
            go_wp2_with fail
            refine (unhide CI).mono ?_
            rintro e w1 ⟨rfl, rfl⟩
            go_wp2
            go_round
            case rel => exact ⟨k + 1, d1, by omega, by go_num, rfl, HF⟩
            case measure => simp [intOf]; omega
          · have tz : (below == 0) = false := by simp [hz]
            by_cases hl : d1 < below
            · by_cases hg : f < d1
              · have HF : Hid (whoT ds item time below = (ds.drop (k + 1)).foldl (whoStep item time below) d1) := Lib.hid (hst _ (by unfold whoStep; rw [if_pos hin, if_neg hz, if_pos ⟨hl, hg⟩]))
                clear hst hin hz
                go_wp2_with fail
                refine (unhide CI).mono ?_
                rintro e w1 ⟨rfl, rfl⟩
                go_wp2
                go_round
                case rel => exact ⟨k + 1, d1, by omega, by go_num, rfl, HF⟩
                case measure => simp [intOf]; omega
              · have HF : Hid (whoT ds item time below = (ds.drop (k + 1)).foldl (whoStep item time below) f) := Lib.hid (hst _ (by unfold whoStep; rw [if_pos hin, if_neg hz, if_neg (fun e => hg e.2)]))
                clear hst hin hz
                go_wp2_with fail
                refine (unhide CI).mono ?_
                rintro e w1 ⟨rfl, rfl⟩
                go_wp2
                go_round
                case rel => exact ⟨k + 1, f, by omega, by go_num, rfl, HF⟩
                case measure => simp [intOf]; omega
            · have HF : Hid (whoT ds item time below = (ds.drop (k + 1)).foldl (whoStep item time below) f) := Lib.hid (hst _ (by unfold whoStep; rw [if_pos hin, if_neg hz, if_neg (fun e => hl e.1)]))
              clear hst hin hz
              go_wp2_with fail
              refine (unhide CI).mono ?_
              rintro e w1 ⟨rfl, rfl⟩
              go_wp2
              go_round
              case rel => exact ⟨k + 1, f, by omega, by go_num, rfl, HF⟩
              case measure => simp [intOf]; omega
    · have HF : Hid (whoT ds item time below = f) := Lib.hid (by rw [HE.out, drop_end (by rw [(unhide HR).1]; omega)]; rfl)
      go_wp2
      go_ret
      exact ⟨ret_int HF.out.symm, rfl⟩

set_option maxRecDepth 100000 in
set_option maxHeartbeats 4000000 in
theorem rread_any (d : Dl) (As Aw : Option Addr) (ns cs nw cw : Nat) (item : Int) (w : World) (hs : Rd w w.heap.size 3 As ns (cellsH d.seen)) (hn : ns ≤ 1000) :
    Calls Tryd.prog 75 #[dVal d (.slice As ns cs) (.slice Aw nw cw), .int .i64 item] w fun e w' => e = .returned (.bool (readD d item)) ∧ Below w.heap.size w w' := by
  obtain ⟨d1, d2, d3, d4, d5, d6⟩ := d
  unfold dVal
  simp only
  have HR := hide (fun w' (hb : Below w.heap.size w w') => (hs.below hb).more hb.size)
  have HL := Lib.hid hs.hlen
  have hb0 : Below w.heap.size w (w.alloc (.cells #[.int .i64 d1, .int .i64 d2, .int .i64 d3, .slice As ns cs, .slice Aw nw cw] 143)) := (Below.refl _ _).alloc (Nat.le_refl _) _
  have hB0 := Blk.new w 143 [.int .i64 d1, .int .i64 d2, .int .i64 d3, .slice As ns cs, .slice Aw nw cw]
  have HB := hide (fun w' (hb : Below (w.heap.size + 1) (w.alloc (.cells #[.int .i64 d1, .int .i64 d2, .int .i64 d3, .slice As ns cs, .slice Aw nw cw] 143)) w') => hB0.below hb (Nat.lt_succ_self _))
  have HBd : Hid (∀ w', Below (w.heap.size + 1) (w.alloc (.cells #[.int .i64 d1, .int .i64 d2, .int .i64 d3, .slice As ns cs, .slice Aw nw cw] 143)) w' → Below w.heap.size w w') := Lib.hid (fun w' hb => hb0.trans (hb.mono (Nat.le_succ _)))
  have hbr : Below (w.heap.size + 1) (w.alloc (.cells #[.int .i64 d1, .int .i64 d2, .int .i64 d3, .slice As ns cs, .slice Aw nw cw] 143)) (w.alloc (.cells #[.int .i64 d1, .int .i64 d2, .int .i64 d3, .slice As ns cs, .slice Aw nw cw] 143)) := Below.refl _ _
  clear hs hb0 hB0
  go_enter Tryd.func75, Tryd.ntmps75
  go_wp2
  go_loopw [5] (fun i wr => ∃ k : Nat, k ≤ ns ∧ i = .int .i64 k ∧ Hid (readD ⟨d1, d2, d3, d4, d5, d6⟩ item = (d4.drop k).any fun s => decide (s.what = item) && !decide (s.item = d1)) ∧ Below (w.heap.size + 1) (w.alloc (.cells #[.int .i64 d1, .int .i64 d2, .int .i64 d3, .slice As ns cs, .slice Aw nw cw] 143)) wr) (fun i _ => ns - (intOf i).toNat)
  case atStart => exact ⟨0, Nat.zero_le _, rfl, Lib.hid rfl, hbr⟩
  case round =>
    clear hbr
    obtain ⟨k, hk, rfl, HE, hbw⟩ := hrel
    have hB := unhide HB wr hbw
    have x0 := hB.cellS (i := 0) (v := .int .i64 d1) rfl
    have x3 := hB.cellS (i := 3) (v := .slice As ns cs) rfl
    have hbo := HBd.out wr hbw
    by_cases hlt : k < ns
    · obtain ⟨b, off, o, he, hb, ho, c0, c1, c2⟩ := (unhide HR wr hbo).op (k := k) hlt
      cases he
      have HS : Hid (readD ⟨d1, d2, d3, d4, d5, d6⟩ item = ((decide (o.what = item) && !decide (o.item = d1)) || (d4.drop (k + 1)).any fun s => decide (s.what = item) && !decide (s.item = d1))) := Lib.hid (by rw [HE.out, drop_at ho]; rfl)
      obtain ⟨o1, o2, o3⟩ := o
      simp only at c0 c1 c2 HS
      clear ho HE hB c0
      have j0 : (0 : Int) ≤ (k : Int) := by omega
      have j1 : (k : Int) < (ns : Int) := by omega
      by_cases h1 : o2 = item
      · have t1 : (o2 == item) = true := by simp [h1]
        by_cases h2 : o3 = d1
        · have t2 : (o3 != d1) = false := by simp [h2]
          have HF : Hid (readD ⟨d1, d2, d3, d4, d5, d6⟩ item = (d4.drop (k + 1)).any fun s => decide (s.what = item) && !decide (s.item = d1)) := Lib.hid (by rw [HS.out, decide_eq_true h2]; simp)
          clear h1 h2
          go_wp2
          go_quiet (fail)
          go_wp2
          go_roundw
          case rel => exact ⟨k + 1, by omega, by go_num, HF, below_drewN hbw _⟩
          case measure => simp [intOf]; omega
        · have t2 : (o3 != d1) = true := by simp [h2]
          have HF : Hid (readD ⟨d1, d2, d3, d4, d5, d6⟩ item = true) := Lib.hid (by rw [HS.out, decide_eq_true h1, decide_eq_false h2]; rfl)
          have hend := below_drewN hbo
          clear h1 h2
          go_wp2
          go_quiet (fail)
          go_wp2
          go_ret
          exact ⟨ret_bool HF.out.symm, hend _⟩
      · have t1 : (o2 == item) = false := by simp [h1]
        have HF : Hid (readD ⟨d1, d2, d3, d4, d5, d6⟩ item = (d4.drop (k + 1)).any fun s => decide (s.what = item) && !decide (s.item = d1)) := Lib.hid (by rw [HS.out, decide_eq_false h1]; rfl)
        clear h1
        go_wp2
        go_quiet (fail)
        go_wp2
        go_roundw
        case rel => exact ⟨k + 1, by omega, by go_num, HF, below_drewN hbw _⟩
        case measure => simp [intOf]; omega
    · have HF : Hid (readD ⟨d1, d2, d3, d4, d5, d6⟩ item = false) := Lib.hid (by rw [HE.out, drop_end (by have := HL.out; omega)]; rfl)
      go_wp2
      go_ret
      exact ⟨ret_bool HF.out.symm, hbo⟩

set_option maxHeartbeats 2000000 in
theorem ratOnce_any (a b : Dl) (va vb ua ub : Value) (w : World) :
    Calls Tryd.prog 105 #[dVal a va vb, dVal b ua ub] w fun e w' => e = .returned (.bool (atOnceD a b)) ∧ Below w.heap.size w w' := by
  obtain ⟨xa, ba, ea, a4, a5, a6⟩ := a
  obtain ⟨xb, bb, eb, b4, b5, b6⟩ := b
  unfold dVal atOnceD
  simp only
  have hb0 : Below w.heap.size w ((w.alloc (.cells #[.int .i64 xa, .int .i64 ba, .int .i64 ea, va, vb] 143)).alloc (.cells #[.int .i64 xb, .int .i64 bb, .int .i64 eb, ua, ub] 143)) := ((Below.refl _ _).alloc (Nat.le_refl _) _).alloc (by simp) _
  by_cases h1 : eb < 0 <;> by_cases h2 : ba < eb <;> by_cases h3 : ea < 0 <;> by_cases h4 : bb < ea
  all_goals
    go_enter Tryd.func105, Tryd.ntmps105
    go_wp2
    go_ret
    exact ⟨ret_bool (by simp [h1, h2, h3, h4]), hb0⟩
end Go.Proofs.YtfmdeahblaikoaaDoor
