
/-
  CONTRACTS of stock.New, Now, Range, Ask.
-/
import Derived.Test.YtppfhkmhciiaiaaDoorMapR
import Derived.Test.YtppfhkmhciiaiaaDoorSame
import Derived.Test.YtppfhkmhciiaiaaDoorCheck
import Derived.Handy
import Derived.WalkSpells
import Derived.StillTailTactics

namespace Go.Proofs.YtppfhkmhciiaiaaDoor
open Go.RowKit

def askV (a : Int × Int) : Value := .agg #[.int .i64 a.1, .int .i64 a.2]
abbrev StM := List (Int × (Int × Int))
def sumA : StM → Int
  | [] => 0
  | p :: t => p.2.1 + sumA t
def sumT : StM → Int
  | [] => 0
  | p :: t => p.2.2 + sumT t
/-- What always holds of a stock: nobody asks less than none; what can be lies between none and the most. -/
structure StOk (now : Int) (m : StM) : Prop where
  pos : ∀ p ∈ m, 0 ≤ p.2.1 ∧ 0 ≤ p.2.2
  low : 0 ≤ now - sumT m
  high : now + sumA m ≤ 1000000
theorem sums_pos {m : StM} (h : ∀ p ∈ m, 0 ≤ p.2.1 ∧ 0 ≤ p.2.2) : 0 ≤ sumA m ∧ 0 ≤ sumT m := by
  induction m with
  | nil => simp [sumA, sumT]
  | cons p t ih =>
    have := ih fun q hq => h q (by simp [hq])
    have := h p (by simp)
    simp only [sumA, sumT]; omega
theorem sums_erase : ∀ {m : StM} {i : Nat} {p : Int × (Int × Int)}, m[i]? = some p → sumA m = p.2.1 + sumA (m.eraseIdx i) ∧ sumT m = p.2.2 + sumT (m.eraseIdx i)
  | [], i, p, h => by simp at h
  | a :: t, 0, p, h => by
    obtain rfl : a = p := by simpa using h
    exact ⟨rfl, rfl⟩
  | a :: t, i + 1, p, h => by
    have := sums_erase (m := t) (i := i) (p := p) (by simpa using h)
    simp only [List.eraseIdx_cons_succ, sumA, sumT]; omega
theorem mem_erase {α : Type} {l : List α} {i : Nat} {x : α} (h : x ∈ l.eraseIdx i) : x ∈ l := List.mem_of_mem_eraseIdx h

/-- A stock: its block s, its map's block b. -/
structure StW (w : World) (s b : Nat) (now : Int) (m : StM) : Prop where
  blk : Blk w s 44 [.int .i64 now, .map (some b)]
  map : MapI w b (mvf askV m)
theorem StW.below {w w' : World} {s b : Nat} {now : Int} {m : StM} {B : Nat} (h : StW w s b now m) (hb : Below B w w') (h1 : s < B) (h2 : b < B) : StW w' s b now m := ⟨h.blk.below hb h1, h.map.below hb h2⟩
theorem StW.grown {w w' : World} {s b : Nat} {now : Int} {m : StM} (h : StW w s b now m) (hg : Below w.heap.size w w') : StW w' s b now m := h.below hg h.blk.lt h.map.lt

def errS (e : Int) : Value := if e = 0 then .nilIface else .iface 41 (.int .i64 e)

theorem new_bad (n : Int) (w : World) (h : n < 0 ∨ 1000000 < n) : Calls Tryd.prog 4 #[.int .i64 n] w fun e w' => e = .returned (.tuple #[.pointer none, .iface 41 (.int .i64 1)]) ∧ w = w' := by
  rcases h with h | h
  · go_enter Tryd.func4, Tryd.ntmps4
    go_wp2
    go_ret2
    exact ⟨rfl, rfl⟩
  · have h1 : ¬ n < 0 := by omega
    go_enter Tryd.func4, Tryd.ntmps4
    go_wp2
    go_ret2
    exact ⟨rfl, rfl⟩

theorem new_ok (n : Int) (w : World) (h1 : 0 ≤ n) (h2 : n ≤ 1000000) : Calls Tryd.prog 4 #[.int .i64 n] w fun e w' => e = .returned (.tuple #[.pointer (some ⟨w.heap.size + 1, 0, none⟩), .nilIface]) ∧ StW w' (w.heap.size + 1) w.heap.size n [] ∧ Below w.heap.size w w' := by
  have hmm := @run_makeMap Tryd.prog
  go_enter Tryd.func4, Tryd.ntmps4
  go_wp2
  go_ret2
  exact ⟨rfl, ⟨by simpa using Blk.new (w.alloc (.map #[] 0)) 44 [.int .i64 n, .map (some w.heap.size)], (MapI.new w).alloc _⟩, ((Below.refl _ _).alloc (Nat.le_refl _) _).alloc (by simp) _⟩

theorem now_any (s b : Nat) (now : Int) (m : StM) (w : World) (h : StW w s b now m) : Calls Tryd.prog 10 #[.pointer (some ⟨s, 0, none⟩)] w fun e w' => e = .returned (.int .i64 now) ∧ w = w' := by
  have c0 := h.blk.cellS (i := 0) (v := .int .i64 now) rfl
  go_enter Tryd.func10, Tryd.ntmps10
  go_wp2
  go_ret
  exact ⟨rfl, rfl⟩

set_option maxHeartbeats 1000000 in
theorem range_any (s b : Nat) (now : Int) (m : StM) (w : World) (h : StW w s b now m) (hok : StOk now m) :
    Calls Tryd.prog 9 #[.pointer (some ⟨s, 0, none⟩)] w fun e w' => e = .returned (.tuple #[.int .i64 (now - sumT m), .int .i64 (now + sumA m)]) ∧ Below w.heap.size w w' := by
  have c0 := h.blk.cellS (i := 0) (v := .int .i64 now) rfl
  have c1 := h.blk.cellS (i := 1) (v := .map (some b)) rfl
  have hm := h.map
  have hsz := h.blk.lt
  have hbl := h.map.lt
  obtain ⟨p1, p2, p3⟩ := hok
  obtain ⟨q1, q2⟩ := sums_pos p1
  have HP := Lib.hid p1
  clear p1
  go_enter Tryd.func9, Tryd.ntmps9
  go_wp2
  go_quiet (fail)
  go_wp2_with (at_range; refine wpList_rangeI rfl (.tmp 19) _ rfl Tryd.underlying42 hm rfl ?_; intro w0 hrg0 hg0 hs0)
  have hb0 : Below w.heap.size w w0 := (below_drewN (Below.refl _ _) _).grown hg0 (by simp) (by simp)
  have hsz0 : w0.heap.size = w.heap.size + 1 := by simpa using hs0
  have hrg1 : RangeI w0 b w.heap.size (mvf askV m) (mvf askV m) := by simpa using hrg0
  clear hrg0 hg0 hs0 hm c0 c1
  go_frame
  go_loopw [4, 5] (fun s4 s5 wr => ∃ left : StM, s4 = .int .i64 (now - sumT m + sumT left) ∧ s5 = .int .i64 (now + sumA m - sumA left) ∧ RangeI wr b w.heap.size (mvf askV m) (mvf askV left) ∧ Hid (∀ p ∈ left, 0 ≤ p.2.1 ∧ 0 ≤ p.2.2) ∧ sumT left ≤ sumT m ∧ sumA left ≤ sumA m ∧ Below w.heap.size w wr)
    (fun _ _ wr => wr.rangeLeft b w.heap.size)
  case atStart => exact ⟨m, by congr 1; omega, by congr 1; omega, hrg1, HP, Int.le_refl _, Int.le_refl _, hb0⟩
  case round =>
    obtain ⟨left, rfl, rfl, hrg, HPL, hT, hA, hbw⟩ := hrel
    obtain ⟨l1, l2⟩ := sums_pos HPL.out
    have hlw := hrg.lt
    go_wp2_with (at_next; refine wpList_nextI rfl (.tmp 20) rfl hrg (by rfl) ?_ ?_)
    · intro hnil
      have HN : Hid (left = []) := Lib.hid (by cases left with | nil => rfl | cons p t => simp [mvf] at hnil)
      clear hnil
      go_wp2
      go_ret2
      rw [HN.out]
      exact ⟨by simp [sumT, sumA], hbw⟩
    · intro i k v w2 hi hrg2 hg2 hs2 hen
      obtain ⟨⟨av, tv⟩, ha, rfl⟩ := mvf_at hi
      rw [mvf_erase] at hrg2
      have he := sums_erase ha
      simp only at he
      obtain ⟨e1, e2⟩ := he
      have hpos := HPL.out _ (List.mem_of_getElem? ha)
      simp only at hpos
      have HP2 : Hid (∀ p ∈ left.eraseIdx i, 0 ≤ p.2.1 ∧ 0 ≤ p.2.2) := Lib.hid (fun p hp => HPL.out p (mem_erase hp))
      obtain ⟨m1, m2⟩ := sums_pos HP2.out
      have HM : Hid ((left.eraseIdx i).length < left.length) := Lib.hid (by
        have := (List.getElem?_eq_some_iff.1 ha).1
        rw [List.length_eraseIdx_of_lt this]; omega)
      have hbw2 : Below w.heap.size w w2 := hbw.grown hg2 hbw.size (fun k hk => by cases hk; exact Nat.le_refl _)
      have t1 : tv ≤ sumT left := by omega
      have t2 : av ≤ sumA left := by omega
      obtain ⟨t3, t4⟩ := hpos
      have HE := Lib.hid (And.intro e1 e2)
      have HL1 := Lib.hid hrg.left_eq
      clear hi ha e1 e2 hg2 hs2 hrg
      unfold askV at hen
      simp only at hen
      go_wp2
      go_roundw
      case rel =>
        (repeat apply Exists.intro)
        refine ⟨⟨left.eraseIdx i, ?_, ?_, hrg2.alloc _, HP2, by have := HE.out; omega, by have := HE.out; omega, hbw2.alloc hbw2.size _⟩, rfl⟩
        · congr 1; have := HE.out; omega
        · congr 1; have := HE.out; omega
      case measure =>
        have h1 := (hrg2.alloc (.cells #[.int .i64 av, .int .i64 tv] 47)).left_eq
        have h2 := HM.out
        have h3 := HL1.out
        rw [mvf_length] at h1 h3
        rw [h1, h3]; exact h2

/-! ### Ask. -/
def askRes (now : Int) (m : StM) (tx d : Int) : Bool × Int :=
  if txB tx = false ∨ d = 0 ∨ d < -1000000 ∨ 1000000 < d then (false, 1)
  else if now - sumT m + min d 0 < 0 ∨ 1000000 < now + sumA m + max d 0 then (false, 0) else (true, 0)
def askM (now : Int) (m : StM) (tx d : Int) : StM :=
  if (askRes now m tx d).1 then putL m tx (((getL m tx).getD (0, 0)).1 + max d 0, ((getL m tx).getD (0, 0)).2 + max (-d) 0) else m

theorem zero_asked (w : World) : (zeroValue 47).run Tryd.prog w = .ok (.agg #[.int .i64 0, .int .i64 0]) w := by kernel_rfl

theorem ask_bad (s : Nat) (tx d : Int) (w : World) (h : txB tx = false ∨ d = 0 ∨ d < -1000000 ∨ 1000000 < d) :
    Calls Tryd.prog 7 #[.pointer (some ⟨s, 0, none⟩), .int .i64 tx, .int .i64 d] w fun e w' => e = .returned (.tuple #[.bool false, .iface 41 (.int .i64 1)]) ∧ w = w' := by
  cases hT : txB tx
  · go_enter Tryd.func7, Tryd.ntmps7
    go_wp2_with (go_at_call 12; refine (tx_any _ _).mono ?_; rintro e w' ⟨rfl, rfl⟩; rw [hT])
    go_ret2
    exact ⟨rfl, rfl⟩
  by_cases h0 : d = 0
  · subst h0
    clear h
    go_enter Tryd.func7, Tryd.ntmps7
    go_wp2_with (go_at_call 12; refine (tx_any _ _).mono ?_; rintro e w' ⟨rfl, rfl⟩; rw [hT])
    go_ret2
    exact ⟨rfl, rfl⟩
  have h0' : (d == 0) = false := by simpa using h0
  by_cases h1 : d < -1000000
  · clear h
    go_enter Tryd.func7, Tryd.ntmps7
    go_wp2_with (go_at_call 12; refine (tx_any _ _).mono ?_; rintro e w' ⟨rfl, rfl⟩; rw [hT])
    go_ret2
    exact ⟨rfl, rfl⟩
  · have h2 : 1000000 < d := by rcases h with h | h | h | h <;> first | omega | (rw [hT] at h; cases h)
    clear h
    go_enter Tryd.func7, Tryd.ntmps7
    go_wp2_with (go_at_call 12; refine (tx_any _ _).mono ?_; rintro e w' ⟨rfl, rfl⟩; rw [hT])
    go_ret2
    exact ⟨rfl, rfl⟩

set_option maxHeartbeats 1000000 in
theorem ask_no (s b : Nat) (now : Int) (m : StM) (tx d : Int) (w : World) (h : StW w s b now m) (hok : StOk now m) (hT : txB tx = true) (h0 : d ≠ 0) (h1 : -1000000 ≤ d) (h2 : d ≤ 1000000) (hno : now - sumT m + min d 0 < 0 ∨ 1000000 < now + sumA m + max d 0) :
    Calls Tryd.prog 7 #[.pointer (some ⟨s, 0, none⟩), .int .i64 tx, .int .i64 d] w fun e w' => e = .returned (.tuple #[.bool false, .nilIface]) ∧ Below w.heap.size w w' := by
  have C := hide (range_any s b now m w h hok)
  obtain ⟨p1, p2, p3⟩ := hok
  obtain ⟨q1, q2⟩ := sums_pos p1
  clear p1
  have h0' : (d == 0) = false := by simpa using h0
  generalize sumT m = T at *
  generalize sumA m = A at *
  by_cases hd : d < 0
  · have e1 : min d 0 = d := by omega
    have e2 : max d 0 = 0 := by omega
    have hlo : now - T + d < 0 := by omega
    clear hno
    go_enter Tryd.func7, Tryd.ntmps7
    go_wp2_with (first
      | (go_at_call 12; refine (tx_any _ _).mono ?_; rintro e w' ⟨rfl, rfl⟩; rw [hT])
      | (go_at_call 9; refine (unhide C).mono ?_; rintro e w' ⟨rfl, hb⟩))
    go_ret2
    exact ⟨rfl, hb⟩
  · have e1 : min d 0 = 0 := by omega
    have e2 : max d 0 = d := by omega
    have hlo : ¬ now - T < 0 := by omega
    have hhi : 1000000 < now + A + d := by omega
    clear hno
    go_enter Tryd.func7, Tryd.ntmps7
    go_wp2_with (first
      | (go_at_call 12; refine (tx_any _ _).mono ?_; rintro e w' ⟨rfl, rfl⟩; rw [hT])
      | (go_at_call 9; refine (unhide C).mono ?_; rintro e w' ⟨rfl, hb⟩))
    go_ret2
    exact ⟨rfl, hb⟩

theorem getL_pos {m : StM} (h : ∀ p ∈ m, 0 ≤ p.2.1 ∧ 0 ≤ p.2.2) (k : Int) : 0 ≤ ((getL m k).getD (0, 0)).1 ∧ 0 ≤ ((getL m k).getD (0, 0)).2 ∧ ((getL m k).getD (0, 0)).1 ≤ sumA m ∧ ((getL m k).getD (0, 0)).2 ≤ sumT m := by
  induction m with
  | nil => simp [getL, sumA, sumT]
  | cons p t ih =>
    have h1 := ih fun q hq => h q (by simp [hq])
    have h2 := h p (by simp)
    have h3 := sums_pos (m := t) fun q hq => h q (by simp [hq])
    unfold getL
    split
    · simp only [Option.getD_some, sumA, sumT]; omega
    · simp only [sumA, sumT]; omega

set_option maxRecDepth 100000 in
set_option maxHeartbeats 4000000 in
theorem ask_yes2 (s b : Nat) (now : Int) (m : StM) (tx d : Int) (w : World) (lo : Nat) (h : StW w s b now m) (hok : StOk now m) (hlb : lo ≤ b) (hlw : lo ≤ w.heap.size) (hT : txB tx = true) (h0 : d ≠ 0) (h1 : -1000000 ≤ d) (h2 : d ≤ 1000000) (hlo : 0 ≤ now - sumT m + min d 0) (hhi : now + sumA m + max d 0 ≤ 1000000) :
    Calls Tryd.prog 7 #[.pointer (some ⟨s, 0, none⟩), .int .i64 tx, .int .i64 d] w fun e w' => e = .returned (.tuple #[.bool true, .nilIface]) ∧ StW w' s b now (putL m tx (((getL m tx).getD (0, 0)).1 + max d 0, ((getL m tx).getD (0, 0)).2 + max (-d) 0)) ∧ Below lo w w' ∧ (∀ g, g < w.heap.size → g ≠ b → w'.heap[g]? = w.heap[g]?) := by
  have C := hide (range_any s b now m w h hok)
  obtain ⟨p1, p2, p3⟩ := hok
  obtain ⟨q1, q2⟩ := sums_pos p1
  have hg := getL_pos p1 tx
  have hgi := getI_mvf askV m tx
  have hput := fun a => putI_mvf askV m tx a
  clear p1
  have h0' : (d == 0) = false := by simpa using h0
  obtain ⟨⟨av, tv⟩, hav⟩ : ∃ a, (getL m tx).getD (0, 0) = a := ⟨_, rfl⟩
  rw [hav] at hg ⊢
  simp only at hg
  obtain ⟨g1, g2, g3, g4⟩ := hg
  have hgd : (getI (mvf askV m) tx).getD (.agg #[.int .i64 0, .int .i64 0]) = .agg #[.int .i64 av, .int .i64 tv] := by
    have : ((getL m tx).map askV).getD (.agg #[.int .i64 0, .int .i64 0]) = askV ((getL m tx).getD (0, 0)) := by cases getL m tx <;> rfl
    rw [hgi, this, hav]; rfl
  have HG := Lib.hid hgd
  have HPUT := hide hput
  clear hgi hgd hput hav
  have hz := zero_asked
  generalize hT' : sumT m = T at *
  generalize hA' : sumA m = A at *
  have HS := Lib.hid (And.intro hT' hA')
  clear hT' hA'
  by_cases hd : d < 0
  · have e1 : min d 0 = d := by omega
    have e2 : max d 0 = 0 := by omega
    have e3 : max (-d) 0 = -d := by omega
    rw [e1] at hlo
    rw [e2] at hhi
    rw [e2, e3]
    have hlo' : ¬ now - T + d < 0 := by omega
    have hhi' : ¬ 1000000 < now + A + 0 := by omega
    go_enter Tryd.func7, Tryd.ntmps7
    go_wp2_with (first
      | (go_at_call 12; refine (tx_any _ _).mono ?_; rintro e w' ⟨rfl, rfl⟩; rw [hT])
      | (go_at_call 9; refine (unhide C).mono ?_; rintro e w1 ⟨rfl, hb⟩; have hst := h.grown hb; have c1 := hst.blk.cellS (i := 1) (v := .map (some b)) rfl; have hm1 := hst.map; have hsl := hst.blk.lt; have hbl := hst.map.lt)
      | (at_lookup; refine wpList_lookupI rfl (.tmp 47) (.tmp 48) _ false rfl Tryd.underlying42 Tryd.underlying3 hm1 hz (by rfl) (by rfl) ?_; simp only [Bool.false_eq_true, if_false]; rw [HG.out]))
    have hb2 := hb.alloc hb.size (.cells #[.int .i64 (av), .int .i64 (tv + -d)] 47)
    have hst2 := hst.grown ((Below.refl _ _).alloc (Nat.le_refl _) (.cells #[.int .i64 (av), .int .i64 (tv + -d)] 47))
    have k2 : (w1.alloc (.cells #[.int .i64 (av), .int .i64 (tv + -d)] 47)).cell? ⟨w1.heap.size, 0, none⟩ = some (.int .i64 (av)) := by simp [World.cell?_alloc_new]
    have k3 : (w1.alloc (.cells #[.int .i64 (av), .int .i64 (tv + -d)] 47)).cell? ⟨w1.heap.size, 1, none⟩ = some (.int .i64 (tv + -d)) := by simp [World.cell?_alloc_new]
    generalize w1.alloc (.cells #[.int .i64 (av), .int .i64 (tv + -d)] 47) = w2 at *
    have k1 : ({ w2 with drawn := w2.drawn + 1 } : World).cell? ⟨s, 1, none⟩ = some (.map (some b)) := hst2.blk.cellS (i := 1) (v := .map (some b)) rfl
    have k4 : w2.cell? ⟨s, 1, none⟩ = some (.map (some b)) := k1
    have k5 := k2
    have k6 := k3
    replace k2 : ({ w2 with drawn := w2.drawn + 1 } : World).cell? ⟨w1.heap.size, 0, none⟩ = some (.int .i64 (av)) := k2
    replace k3 : ({ w2 with drawn := w2.drawn + 1 } : World).cell? ⟨w1.heap.size, 1, none⟩ = some (.int .i64 (tv + -d)) := k3
    have hms : MapI ({ w2 with drawn := w2.drawn + 1 } : World) b (mvf askV m) := hst2.map
    have hbd : Below w.heap.size w ({ w2 with drawn := w2.drawn + 1 } : World) := hb2.drew
    have hbk : Blk ({ w2 with drawn := w2.drawn + 1 } : World) s 44 [.int .i64 now, .map (some b)] := hst2.blk
    clear hst2 hb2 hst c1 hm1
    go_still_tail 6, (by kernel_rfl)
    (with_reducible show wpList _ _ _ _ _ _)
    refine wpList_updateI rfl (.tmp 66) (.tmp 67) (.tmp 68) _ rfl Tryd.underlying42 Tryd.underlying3 hms (k := tx) (u := askV (av, tv + -d)) (by rfl) (by rfl) (by rfl) ?_
    intro w3 hm3 hg3
    rw [unhide HPUT] at hm3
    have hbk3 := hbk.grown hg3 (fun k hk => by cases hk; intro e; subst e; obtain ⟨_, _, hx, _⟩ := hms; rw [show _ = _ from hbk] at hx; cases hx)
    have hb3 : Below lo w w3 := (hbd.mono hlw).grown hg3 (Nat.le_trans hlw hbd.size) (fun k hk => by cases hk; exact hlb)
    have HKP : Hid (∀ g, g < w.heap.size → g ≠ b → w3.heap[g]? = w.heap[g]?) := Lib.hid (fun g hg hne => (hg3.block g (Nat.lt_of_lt_of_le hg hbd.size) (fun e => hne (by cases e; rfl))).trans (hbd.block g hg))
    go_wp2
    go_ret2
    exact ⟨rfl, ⟨hbk3, by simpa using hm3⟩, hb3, HKP.out⟩
  · have e1 : min d 0 = 0 := by omega
    have e2 : max d 0 = d := by omega
    have e3 : max (-d) 0 = 0 := by omega
    rw [e1] at hlo
    rw [e2] at hhi
    rw [e2, e3]
    have hlo' : ¬ now - T + 0 < 0 := by omega
    have hhi' : ¬ 1000000 < now + A + d := by omega
    go_enter Tryd.func7, Tryd.ntmps7
    go_wp2_with (first
      | (go_at_call 12; refine (tx_any _ _).mono ?_; rintro e w' ⟨rfl, rfl⟩; rw [hT])
      | (go_at_call 9; refine (unhide C).mono ?_; rintro e w1 ⟨rfl, hb⟩; have hst := h.grown hb; have c1 := hst.blk.cellS (i := 1) (v := .map (some b)) rfl; have hm1 := hst.map; have hsl := hst.blk.lt; have hbl := hst.map.lt)
      | (at_lookup; refine wpList_lookupI rfl (.tmp 47) (.tmp 48) _ false rfl Tryd.underlying42 Tryd.underlying3 hm1 hz (by rfl) (by rfl) ?_; simp only [Bool.false_eq_true, if_false]; rw [HG.out]))
    have hb2 := hb.alloc hb.size (.cells #[.int .i64 (av + d), .int .i64 (tv)] 47)
    have hst2 := hst.grown ((Below.refl _ _).alloc (Nat.le_refl _) (.cells #[.int .i64 (av + d), .int .i64 (tv)] 47))
    have k2 : (w1.alloc (.cells #[.int .i64 (av + d), .int .i64 (tv)] 47)).cell? ⟨w1.heap.size, 0, none⟩ = some (.int .i64 (av + d)) := by simp [World.cell?_alloc_new]
    have k3 : (w1.alloc (.cells #[.int .i64 (av + d), .int .i64 (tv)] 47)).cell? ⟨w1.heap.size, 1, none⟩ = some (.int .i64 (tv)) := by simp [World.cell?_alloc_new]
    generalize w1.alloc (.cells #[.int .i64 (av + d), .int .i64 (tv)] 47) = w2 at *
    have k1 : ({ w2 with drawn := w2.drawn + 1 } : World).cell? ⟨s, 1, none⟩ = some (.map (some b)) := hst2.blk.cellS (i := 1) (v := .map (some b)) rfl
    have k4 : w2.cell? ⟨s, 1, none⟩ = some (.map (some b)) := k1
    have k5 := k2
    have k6 := k3
    replace k2 : ({ w2 with drawn := w2.drawn + 1 } : World).cell? ⟨w1.heap.size, 0, none⟩ = some (.int .i64 (av + d)) := k2
    replace k3 : ({ w2 with drawn := w2.drawn + 1 } : World).cell? ⟨w1.heap.size, 1, none⟩ = some (.int .i64 (tv)) := k3
    have hms : MapI ({ w2 with drawn := w2.drawn + 1 } : World) b (mvf askV m) := hst2.map
    have hbd : Below w.heap.size w ({ w2 with drawn := w2.drawn + 1 } : World) := hb2.drew
    have hbk : Blk ({ w2 with drawn := w2.drawn + 1 } : World) s 44 [.int .i64 now, .map (some b)] := hst2.blk
    clear hst2 hb2 hst c1 hm1
    go_still_tail 6, (by kernel_rfl)
    (with_reducible show wpList _ _ _ _ _ _)
    refine wpList_updateI rfl (.tmp 66) (.tmp 67) (.tmp 68) _ rfl Tryd.underlying42 Tryd.underlying3 hms (k := tx) (u := askV (av + d, tv)) (by rfl) (by rfl) (by rfl) ?_
    intro w3 hm3 hg3
    rw [unhide HPUT] at hm3
    have hbk3 := hbk.grown hg3 (fun k hk => by cases hk; intro e; subst e; obtain ⟨_, _, hx, _⟩ := hms; rw [show _ = _ from hbk] at hx; cases hx)
    have hb3 : Below lo w w3 := (hbd.mono hlw).grown hg3 (Nat.le_trans hlw hbd.size) (fun k hk => by cases hk; exact hlb)
    have HKP : Hid (∀ g, g < w.heap.size → g ≠ b → w3.heap[g]? = w.heap[g]?) := Lib.hid (fun g hg hne => (hg3.block g (Nat.lt_of_lt_of_le hg hbd.size) (fun e => hne (by cases e; rfl))).trans (hbd.block g hg))
    go_wp2
    go_ret2
    exact ⟨rfl, ⟨hbk3, by simpa using hm3⟩, hb3, HKP.out⟩
theorem ask_yes (s b : Nat) (now : Int) (m : StM) (tx d : Int) (w : World) (lo : Nat) (h : StW w s b now m) (hok : StOk now m) (hlb : lo ≤ b) (hlw : lo ≤ w.heap.size) (hT : txB tx = true) (h0 : d ≠ 0) (h1 : -1000000 ≤ d) (h2 : d ≤ 1000000) (hlo : 0 ≤ now - sumT m + min d 0) (hhi : now + sumA m + max d 0 ≤ 1000000) :
    Calls Tryd.prog 7 #[.pointer (some ⟨s, 0, none⟩), .int .i64 tx, .int .i64 d] w fun e w' => e = .returned (.tuple #[.bool true, .nilIface]) ∧ StW w' s b now (putL m tx (((getL m tx).getD (0, 0)).1 + max d 0, ((getL m tx).getD (0, 0)).2 + max (-d) 0)) ∧ Below lo w w' :=
  (ask_yes2 s b now m tx d w lo h hok hlb hlw hT h0 h1 h2 hlo hhi).mono fun _ _ ⟨h1, h2, h3, _⟩ => ⟨h1, h2, h3⟩
end Go.Proofs.YtppfhkmhciiaiaaDoor
