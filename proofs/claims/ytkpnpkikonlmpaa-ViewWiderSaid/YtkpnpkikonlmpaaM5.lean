
/-
  CONTRACTS of odds.Alike, odds.Same.
  CONTRACTS of odds.Alike, odds.Same.
  CONTRACT of odds.Same.
-/
import Derived.Test.YtkpnpkikonlmpaaOwn
import Derived.Test.YtkpnpkikonlmpaaM4
import Derived.Test.YtkpnpkikonlmpaaOpen
import Derived.StillTailTactics

namespace Go.Proofs.Ytkpnpkikonlmpaa
open Go.RowKit

/-! ### The keys: two names. -/
abbrev Nm2 := (Int × Int) × (Int × Int)
def nmV (p : Nm2) : Value := .agg #[.int .i64 p.1.1, .int .i64 p.1.2, .int .i64 p.2.1, .int .i64 p.2.2]
def nmOk (p : Nm2) : Prop := (0 ≤ p.1.1 ∧ p.1.1 ≤ 100) ∧ (0 ≤ p.1.2 ∧ p.1.2 ≤ 100) ∧ (0 ≤ p.2.1 ∧ p.2.1 ≤ 100) ∧ (0 ≤ p.2.2 ∧ p.2.2 ≤ 100)
theorem wf_small {a : Int} (h : 0 ≤ a ∧ a ≤ 100) : (Lit.int .i64 a).wf = true := by
  rw [show (Lit.int .i64 a).wf = (decide (-9223372036854775808 ≤ a) && decide (a ≤ 9223372036854775807)) from rfl]
  simp only [Bool.and_eq_true, decide_eq_true_eq]
  omega
theorem keyLits_int {P : Program} {d : Nat} {t : TypeId} {x : Int} (h : P.underlying t = some (.int .i64)) (hx : (Lit.int .i64 x).wf = true) : P.keyLits (d + 1) t [.int .i64 x] = some [.int .i64 x] := by
  conv => lhs; unfold Program.keyLits
  simp only [h]
  simp [hx]
theorem keyLits_struct {P : Program} {d : Nat} {t : TypeId} {fs : Array Field} {cs : List Value} (h : P.underlying t = some (.struct fs)) : P.keyLits (d + 1) t cs = if cs.length = P.cellsOf t ∧ fs.all (·.name != "_") = true then (fs.toList.mapM fun f => P.keyLits d f.type ((cs.drop f.offset).take (P.cellsOf f.type))).map List.flatten else none := by
  conv => lhs; unfold Program.keyLits
  simp only [h]
theorem nmKey (p : Nm2) (h : nmOk p) : ∃ l, keyOf Try.prog 114 (nmV p) = some l := by
  obtain ⟨⟨a, b⟩, c, d⟩ := p
  obtain ⟨h1, h2, h3, h4⟩ := h
  have w1 := wf_small h1
  have w2 := wf_small h2
  have w3 := wf_small h3
  have w4 := wf_small h4
  obtain ⟨m, hm⟩ : ∃ m, Try.prog.types.size + 1 = m + 3 := ⟨Try.prog.types.size - 2, by have : 2 ≤ Try.prog.types.size := of_decide_eq_true (by kernel_rfl); omega⟩
  have hk : Try.prog.keyType 114 = true := by kernel_rfl
  have u1 := Try.underlying114
  have u2 := Try.underlying112
  have u3 := Try.underlying3
  have z1 : Try.prog.cellsOf 114 = 4 := by kernel_rfl
  have z2 : Try.prog.cellsOf 112 = 2 := by kernel_rfl
  have z3 : Try.prog.cellsOf 3 = 1 := by kernel_rfl
  have hf : (nmV ((a, b), c, d)).formed Try.prog 114 = true := by simp [nmV, Value.formed, u1, z1]
  have hn : ∀ x y, (Lit.int .i64 x).wf = true → (Lit.int .i64 y).wf = true → Try.prog.keyLits (m + 2) 112 [.int .i64 x, .int .i64 y] = some [.int .i64 x, .int .i64 y] := by
    intro x y hx hy
    have hi : ∀ x, (Lit.int .i64 x).wf = true → Try.prog.keyLits (m + 1) 3 [.int .i64 x] = some [.int .i64 x] := by
      intro x hx
      exact keyLits_int u3 hx
    rw [keyLits_struct u2, if_pos ⟨by rw [z2]; rfl, by kernel_rfl⟩]
    simp [z3, hi x hx, hi y hy]
  unfold keyOf
  rw [u1]
  simp only [hk, hf, Bool.and_self, if_true, hm]
  rw [keyLits_struct u1, if_pos ⟨by rw [z1]; rfl, by kernel_rfl⟩]
  simp [nmV, Value.cells, z2, hn _ _ w1 w2, hn _ _ w3 w4]
theorem nmSet : KSet Try.prog 114 nmV nmOk where
  law := deep_law_laid laidOut (m := 3) (by omega) (of_decide_eq_true (by kernel_rfl)) (by kernel_rfl) (by rw [Try.underlying114])
  key := nmKey
  inj := by
    rintro ⟨⟨a, b⟩, c, d⟩ ⟨⟨a', b'⟩, c', d'⟩ h
    unfold nmV at h
    injection h with h
    simp only [Array.mk.injEq, List.cons.injEq, Value.int.injEq, true_and, and_true] at h
    obtain ⟨rfl, rfl, rfl, rfl⟩ := h
    rfl
end Go.Proofs.Ytkpnpkikonlmpaa


namespace Go.Proofs.Ytkpnpkikonlmpaa
open Go.RowKit

theorem nm_ok {h : List HOp} (hl : h.length ≤ 40) (ht : ∀ o ∈ h, 1 ≤ o.tx ∧ o.tx ≤ 6) (i : Nat) : (0 ≤ (nameAt h i).1 ∧ (nameAt h i).1 ≤ 100) ∧ (0 ≤ (nameAt h i).2 ∧ (nameAt h i).2 ≤ 100) := by
  cases hi : h[i]? with
  | none => unfold nameAt; rw [hi]; simp
  | some o =>
    rw [nameAt_some hi]
    have h1 := ht o (List.mem_of_getElem? hi)
    have h2 : cntT (h.take i) o.tx ≤ (h.take i).length := List.countP_le_length
    rw [List.length_take] at h2
    exact ⟨⟨by simp only; omega, by simp only; omega⟩, by simp only; omega, by simp only; omega⟩
theorem nmOk_pair {h : List HOp} (hl : h.length ≤ 40) (ht : ∀ o ∈ h, 1 ≤ o.tx ∧ o.tx ≤ 6) (p : Int × Int) : nmOk (pairN h p) :=
  ⟨(nm_ok hl ht _).1, (nm_ok hl ht _).2, (nm_ok hl ht _).1, (nm_ok hl ht _).2⟩
theorem dcell2 {l : List (Int × Int)} {i : Nat} {a b : Int} (h : l[i]? = some (a, b)) : (dcells l)[i * 2]? = some (.int .i64 a) ∧ (dcells l)[i * 2 + 1]? = some (.int .i64 b) := dcells_at h
/-- The cells of a name, of a row of names that reads. -/
theorem rdb_name {w : World} {lo hi n : Nat} {A : Option Addr} {h : List HOp} (hr : RdB w lo hi 2 A n (dcells (namesF h))) (hl : h.length = n) {j : Nat} (hj : j < n) : ∃ b off, A = some ⟨b, off, none⟩ ∧ b < hi ∧ w.cell? ⟨b, off + j * 2, none⟩ = some (.int .i64 (nameAt h j).1) ∧ w.cell? ⟨b, off + j * 2 + 1, none⟩ = some (.int .i64 (nameAt h j).2) := by
  obtain ⟨b, off, hA, _, hb, hc⟩ := hr.2 (by omega)
  obtain ⟨h1, h2⟩ := dcells_at (namesF_at (h := h) (i := j) (by omega))
  exact ⟨b, off, hA, hb, hc _ _ h1, hc _ _ h2⟩
def hasGo (h : List HOp) (S : List Nm2) (l : List (Int × Int)) : Bool := l.all fun p => decide (pairN h p ∈ S)
theorem hasGo_step {h : List HOp} {S : List Nm2} {p : Int × Int} {l t : List (Int × Int)} (e : l = p :: t) : hasGo h S l = (decide (pairN h p ∈ S) && hasGo h S t) := by rw [e, hasGo, List.all_cons]; rfl
theorem alikeB_has {h g : List HOp} {S : List Nm2} (hs : sameOwnB h g = true) (hS : ∀ x, x ∈ S ↔ x ∈ (pairsL g).map (pairN g)) : alikeB h g = hasGo h S (pairsL h) := by
  unfold alikeB hasGo
  rw [hs, Bool.true_and]
  congr 1
  funext p
  rw [decide_eq_decide]
  exact (hS _).symm

set_option maxRecDepth 100000 in
set_option maxHeartbeats 8000000 in
theorem alike_any (A B : Option Addr) (n m c d : Nat) (h g : List HOp) (w : World) (hr : Rd w w.heap.size 3 A n (cellsH h)) (hg : Rd w w.heap.size 3 B m (cellsH g)) (hn : n ≤ 40) (hm : m ≤ 40) (hth : ∀ o ∈ h, 1 ≤ o.tx ∧ o.tx ≤ 6) (htg : ∀ o ∈ g, 1 ≤ o.tx ∧ o.tx ≤ 6) :
    Calls Try.prog 40 #[.slice A n c, .slice B m d] w fun e w' => e = .returned (.bool (alikeB h g)) ∧ Below w.heap.size w w' := by
  have hlh := hr.hlen
  have hlg := hg.hlen
  have HLH := Lib.hid hlh
  have HLG := Lib.hid hlg
  have HOH := hide (fun p => nmOk_pair (h := h) (by omega) hth p)
  have HOG := hide (fun p => nmOk_pair (h := g) (by omega) htg p)
  have C1 := hide (sameDeals_any A B n m c d h g w hr hg (by omega) (by omega))
  have hmm := @run_makeMap Try.prog
  have HT : Hid (Try.prog.underlying 108 = some (.map 114 4)) := Lib.hid (by kernel_rfl)
  have HZ : Hid (∀ w, (zeroValue 4).run Try.prog w = .ok (.bool false) w) := Lib.hid (fun w => by kernel_rfl)
  have HA : Hid (sameOwnB h g = false → alikeB h g = false) := Lib.hid (fun e => by unfold alikeB; rw [e]; rfl)
  have HB := hide (fun (S : List Nm2) (hs : sameOwnB h g = true) => alikeB_has (h := h) (g := g) (S := S) hs)
  have HrR := hide (fun w1 (hb : Below w.heap.size w w1) => (hr.below hb).more hb.size)
  have HgR := hide (fun w1 (hb : Below w.heap.size w w1) => (hg.below hb).more hb.size)
  clear hlh hlg hth htg
  generalize sameOwnB h g = q at *
  generalize alikeB h g = R at *
  go_enter Try.func40, Try.ntmps40
  go_wp2_with fail
  refine (unhide C1).mono ?_
  rintro e w1 ⟨rfl, hb1⟩
  have hbw1 : Below w.heap.size w w1 := hb1
  clear C1 hb1
  cases q
  · have HF := Lib.hid (HA.out rfl)
    clear hmm
    go_wp2
    go_ret
    exact ⟨ret_bool HF.out.symm, hbw1⟩
  · have hS0 : SetK nmV nmOk (w1.alloc (.map #[] 0)) w1.heap.size [] := SetK.new w1
    have hbw2 := hbw1.alloc hbw1.size (.map #[] 0)
    have C2 := hide (names_any B m d g _ (unhide HgR _ hbw2) hm)
    clear HA
    go_wp2_with fail
    refine (unhide C2).mono ?_
    rintro e w3 ⟨v3, rfl, ho3, hb3⟩
    obtain ⟨A3, c3, rfl⟩ := own_slice ho3
    clear hmm
    rw [show (w1.alloc (.map #[] 0)).heap.size = w1.heap.size + 1 by simp] at ho3 hb3
    obtain ⟨b, hbe⟩ : ∃ b, w1.heap.size = b := ⟨_, rfl⟩
    rw [hbe] at ho3 hb3 hS0
    have hgb : w.heap.size ≤ b := by rw [← hbe]; exact hbw1.size
    have hbw3 := hbw2.trans (hb3.mono (by omega))
    have hS3 := hS0.below hb3 (by omega)
    have hz3 : b + 1 ≤ w3.heap.size := by have := hb3.size; simpa [hbe] using this
    have C3 := hide (pairs_any B m d g w3 (unhide HgR _ hbw3) hm)
    have hR3 := rdb_own ho3
    rw [hbe]
    clear C2 hb3 hS0 hbw2 hbw1 hbe ho3
    go_wp2_with fail
    refine (unhide C3).mono ?_
    rintro e w4 ⟨v4, mp, rfl, ho4, hmp, hb4⟩
    obtain ⟨A4, c4, rfl⟩ := own_slice ho4
    have hbw4 := hbw3.trans (hb4.mono hbw3.size)
    have hS4 := hS3.below hb4 (by omega)
    have hz4 := hb4.size
    have hR4 := hR3.below hb4 (Nat.le_refl _)
    have hP4 := rdb_own (own_mono ho4 hz3)
    have hlp : (pairsL g).length = mp := (rd_own ho4).dlen
    have HLP := Lib.hid hlp
    clear C3 hb4 ho4 hS3 hbw3 hR3 hlp
    go_wp2
    obtain ⟨H, hH⟩ : ∃ H, w4.heap.size = H := ⟨_, rfl⟩
    have hN4 : RdB w4 (b + 1) H 2 A3 m (dcells (namesF g)) := ⟨hR4.1, fun h0 => by obtain ⟨x, y, e, l1, l2, r⟩ := hR4.2 h0; exact ⟨x, y, e, l1, by omega, r⟩⟩
    rw [hH] at hP4
    have hHz : H ≤ w4.heap.size := by omega
    have hbH : b < H := by omega
    clear hR4 hz4 hz3 hH
    go_loopw [21] (fun s21 wr => ∃ (i : Nat) (S : List Nm2), i ≤ mp ∧ s21 = .int .i64 i ∧ SetK nmV nmOk wr b S ∧ Hid (∀ x, x ∈ S ↔ x ∈ ((pairsL g).take i).map (pairN g)) ∧ RdB wr (b + 1) H 2 A3 m (dcells (namesF g)) ∧ RdB wr (b + 1) H 2 A4 mp (dcells (pairsL g)) ∧ H ≤ wr.heap.size ∧ Below w.heap.size w wr) (fun s21 _ => mp - (intOf s21).toNat)
    case atStart => exact ⟨0, [], Nat.zero_le _, rfl, hS4, Lib.hid (by simp), hN4, hP4, hHz, hbw4⟩
    case round =>
      clear hS4 hN4 hP4 hHz hbw4
      obtain ⟨i, S, hi, rfl, hS, HM, hN, hP, hHz, hbw⟩ := hrel
      by_cases hlt : i < mp
      · obtain ⟨be, oe, e, he, hbe, ho, q0, q1⟩ := hP.rd.pr (k := i) hlt
        cases he
        obtain ⟨x, y⟩ := e
        obtain ⟨j, k, a1, a2, hjk, hj, hk, rfl, rfl, _⟩ := mem_pairsL.1 (List.mem_of_getElem? ho)
        have hkm : k < m := by have := (List.getElem?_eq_some_iff.1 hk).1; rw [HLG.out] at this; exact this
        have hjm : j < m := by omega
        have HM2 : Hid (∀ S' : List Nm2, (∀ y, y ∈ S' ↔ y ∈ S ∨ y = pairN g ((j : Int), (k : Int))) → ∀ x, x ∈ S' ↔ x ∈ ((pairsL g).take (i + 1)).map (pairN g)) := Lib.hid (fun S' hS' x => by
          rw [hS', HM.out, takeSnoc ho, List.map_append, List.mem_append, List.map_singleton, List.mem_singleton])
        have HPN : Hid (pairN g ((j : Int), (k : Int)) = (nameAt g j, nameAt g k)) := Lib.hid (by simp [pairN])
        have hok := unhide HOG ((j : Int), (k : Int))
        rw [HPN.out] at HM2 hok
        obtain ⟨bn, on, he, hbn, n0, n1⟩ := rdb_name hN HLG.out hjm
        cases he
        obtain ⟨_, _, he, _, n2, n3⟩ := rdb_name hN HLG.out hkm
        cases he
        generalize nameAt g j = N1 at *
        generalize nameAt g k = N2 at *
        obtain ⟨t1, t2⟩ := N1
        obtain ⟨t3, t4⟩ := N2
        simp only at q0 q1 n0 n1 n2 n3
        clear ho hj hk HPN HM hjk
        have hbeH : be < H := hbe
        have hSa := hS.alloc (.cells #[.int .i64 (j : Int), .int .i64 (k : Int)] 50)
        have hNa := hN.alloc hHz (.cells #[.int .i64 (j : Int), .int .i64 (k : Int)] 50)
        have hPa := hP.alloc hHz (.cells #[.int .i64 (j : Int), .int .i64 (k : Int)] 50)
        have hbwa := hbw.alloc hbw.size (.cells #[.int .i64 (j : Int), .int .i64 (k : Int)] 50)
        have hEa := Blk.new wr 50 [.int .i64 (j : Int), .int .i64 (k : Int)]
        have e0 := hEa.cellS (i := 0) (v := .int .i64 (j : Int)) rfl
        have e1 := hEa.cellS (i := 1) (v := .int .i64 (k : Int)) rfl
        have hza : (wr.alloc (.cells #[.int .i64 (j : Int), .int .i64 (k : Int)] 50)).heap.size = wr.heap.size + 1 := by simp
        have m0 : (wr.alloc (.cells #[.int .i64 (j : Int), .int .i64 (k : Int)] 50)).cell? ⟨bn, on + j * 2, none⟩ = some (.int .i64 t1) := (World.cell?_alloc_lt wr _ ⟨bn, on + j * 2, none⟩ (by simp; omega)).trans n0
        have m1 : (wr.alloc (.cells #[.int .i64 (j : Int), .int .i64 (k : Int)] 50)).cell? ⟨bn, on + j * 2 + 1, none⟩ = some (.int .i64 t2) := (World.cell?_alloc_lt wr _ ⟨bn, on + j * 2 + 1, none⟩ (by simp; omega)).trans n1
        have m2 : (wr.alloc (.cells #[.int .i64 (j : Int), .int .i64 (k : Int)] 50)).cell? ⟨bn, on + k * 2, none⟩ = some (.int .i64 t3) := (World.cell?_alloc_lt wr _ ⟨bn, on + k * 2, none⟩ (by simp; omega)).trans n2
        have m3 : (wr.alloc (.cells #[.int .i64 (j : Int), .int .i64 (k : Int)] 50)).cell? ⟨bn, on + k * 2 + 1, none⟩ = some (.int .i64 t4) := (World.cell?_alloc_lt wr _ ⟨bn, on + k * 2 + 1, none⟩ (by simp; omega)).trans n3
        clear hS hN hP hEa
        go_wp2
        clear q0 q1 n0 n1 n2 n3
        generalize wr.alloc (.cells #[.int .i64 (j : Int), .int .i64 (k : Int)] 50) = wa at *
        go_still_tail 12, (by kernel_rfl)
        change wpList _ _ _ _ _ wa.drew
        refine wpList_putK rfl (.tmp 25) (.tmp 36) (.const (.bool true)) _ rfl nmSet HT.out (show SetK nmV nmOk wa.drew b S from hSa) ((t1, t2), (t3, t4)) hok (by rfl) (by rfl) (by rfl) ?_
        intro w5 S' hS5 hmem hg5
        have HM3 : Hid (∀ x, x ∈ S' ↔ x ∈ ((pairsL g).take (i + 1)).map (pairN g)) := Lib.hid (HM2.out S' hmem)
        clear hmem HM2
        have hz5 := hg5.size
        have hzd : wa.drew.heap.size = wr.heap.size + 1 := hza
        have hN5 := (show RdB wa.drew (b + 1) H 2 (some ⟨bn, on, none⟩) m (dcells (namesF g)) from hNa).grown hg5 (by omega) (fun k hk => by injection hk; omega)
        have hP5 := (show RdB wa.drew (b + 1) H 2 (some ⟨be, oe, none⟩) mp (dcells (pairsL g)) from hPa).grown hg5 (by omega) (fun k hk => by injection hk; omega)
        have hbw5 := hbwa.drew.trans (belowGrown hg5 hgb (by omega))
        clear hSa hNa hPa hbwa e0 e1 m0 m1 m2 m3
        go_wp2
        go_roundw
        case rel => exact ⟨i + 1, S', by omega, by go_num, hS5, HM3, hN5, hP5, by omega, hbw5⟩
        case measure => simp [intOf]; omega
      · have HM2 : Hid (∀ x, x ∈ S ↔ x ∈ (pairsL g).map (pairN g)) := Lib.hid (by
          have := HM.out
          rwa [List.take_of_length_le (by rw [HLP.out]; omega)] at this)
        have HR := Lib.hid (unhide HB S (by trivial) HM2.out)
        obtain ⟨wo, rfl⟩ : ∃ wo : World, wo = wr := ⟨_, rfl⟩
        have C4 := hide (names_any A n c h wo (unhide HrR _ hbw) hn)
        have hSb : b < wo.heap.size := hS.lt
        clear HM HM2 hN hP HB
        go_wp2_with fail
        refine (unhide C4).mono ?_
        rintro e w5 ⟨v5, rfl, ho5, hb5⟩
        obtain ⟨A5, c5, rfl⟩ := own_slice ho5
        have hbw5 := hbw.trans (hb5.mono hbw.size)
        have hS5 := hS.below hb5 hSb
        have hR5 := rdb_own ho5
        have C5 := hide (pairs_any A n c h w5 (unhide HrR _ hbw5) hn)
        have hz5 := hb5.size
        clear C4 hb5 ho5 hS hbw
        go_wp2_with fail
        refine (unhide C5).mono ?_
        rintro e w6 ⟨v6, mq, rfl, ho6, hmq, hb6⟩
        obtain ⟨A6, c6, rfl⟩ := own_slice ho6
        have hbw6 := hbw5.trans (hb6.mono hbw5.size)
        have hS6 := hS5.below hb6 (by omega)
        have hR6 := hR5.below hb6 (Nat.le_refl _)
        have hz6 := hb6.size
        have hP6 := rd_own ho6
        have HLQ := Lib.hid hP6.dlen
        clear C5 hb6 ho6 hS5 hR5 hbw5
        go_wp2
        go_loopw [43] (fun s43 wr => ∃ i : Nat, i ≤ mq ∧ s43 = .int .i64 i ∧ Hid (R = hasGo h S ((pairsL h).drop i)) ∧ Below w6.heap.size w6 wr) (fun s43 _ => mq - (intOf s43).toNat)
        case atStart => exact ⟨0, Nat.zero_le _, rfl, HR, Below.refl _ _⟩
        case round =>
          clear HR
          obtain ⟨i, hi, rfl, HR, hbx⟩ := hrel
          have hbwx := hbw6.trans (hbx.mono hbw6.size)
          by_cases hlt : i < mq
          · obtain ⟨be, oe, e, he, hbe, ho, q0, q1⟩ := (hP6.below hbx).pr (k := i) hlt
            cases he
            obtain ⟨x, y⟩ := e
            obtain ⟨j, k, a1, a2, hjk, hj, hk, rfl, rfl, _⟩ := mem_pairsL.1 (List.mem_of_getElem? ho)
            have hkm : k < n := by have := (List.getElem?_eq_some_iff.1 hk).1; rw [HLH.out] at this; exact this
            have hjm : j < n := by omega
            have HPN : Hid (pairN h ((j : Int), (k : Int)) = (nameAt h j, nameAt h k)) := Lib.hid (by simp [pairN])
            have HR2 := Lib.hid (HR.out.trans (hasGo_step (drop_at ho)))
            obtain ⟨q, hqd⟩ : ∃ q, decide (pairN h ((j : Int), (k : Int)) ∈ S) = q := ⟨_, rfl⟩
            have hq : Hid (q = true ↔ pairN h ((j : Int), (k : Int)) ∈ S) := Lib.hid (by rw [← hqd, decide_eq_true_eq])
            rw [hqd] at HR2
            clear hqd
            have hok := unhide HOH ((j : Int), (k : Int))
            rw [HPN.out] at hq hok
            have hNx := hR6.below hbx hz6
            obtain ⟨bn, on, he, hbn, n0, n1⟩ := rdb_name hNx HLH.out hjm
            cases he
            obtain ⟨_, _, he, _, n2, n3⟩ := rdb_name hNx HLH.out hkm
            cases he
            generalize nameAt h j = N1 at *
            generalize nameAt h k = N2 at *
            obtain ⟨t1, t2⟩ := N1
            obtain ⟨t3, t4⟩ := N2
            simp only at q0 q1 n0 n1 n2 n3
            have hzx := hbx.size
            clear ho hj hk HPN HR hjk hNx
            have hSx := (hS6.below hbx (by omega)).alloc (.cells #[.int .i64 (j : Int), .int .i64 (k : Int)] 50)
            have hbxa := hbx.alloc hzx (.cells #[.int .i64 (j : Int), .int .i64 (k : Int)] 50)
            have hEa := Blk.new wr 50 [.int .i64 (j : Int), .int .i64 (k : Int)]
            have e0 := hEa.cellS (i := 0) (v := .int .i64 (j : Int)) rfl
            have e1 := hEa.cellS (i := 1) (v := .int .i64 (k : Int)) rfl
            have m0 : (wr.alloc (.cells #[.int .i64 (j : Int), .int .i64 (k : Int)] 50)).cell? ⟨bn, on + j * 2, none⟩ = some (.int .i64 t1) := (World.cell?_alloc_lt wr _ ⟨bn, on + j * 2, none⟩ (by simp; omega)).trans n0
            have m1 : (wr.alloc (.cells #[.int .i64 (j : Int), .int .i64 (k : Int)] 50)).cell? ⟨bn, on + j * 2 + 1, none⟩ = some (.int .i64 t2) := (World.cell?_alloc_lt wr _ ⟨bn, on + j * 2 + 1, none⟩ (by simp; omega)).trans n1
            have m2 : (wr.alloc (.cells #[.int .i64 (j : Int), .int .i64 (k : Int)] 50)).cell? ⟨bn, on + k * 2, none⟩ = some (.int .i64 t3) := (World.cell?_alloc_lt wr _ ⟨bn, on + k * 2, none⟩ (by simp; omega)).trans n2
            have m3 : (wr.alloc (.cells #[.int .i64 (j : Int), .int .i64 (k : Int)] 50)).cell? ⟨bn, on + k * 2 + 1, none⟩ = some (.int .i64 t4) := (World.cell?_alloc_lt wr _ ⟨bn, on + k * 2 + 1, none⟩ (by simp; omega)).trans n3
            clear hEa hbx
            go_wp2
            clear q0 q1 n0 n1 n2 n3
            generalize wr.alloc (.cells #[.int .i64 (j : Int), .int .i64 (k : Int)] 50) = wa at *
            go_still_tail 12, (by kernel_rfl)
            change wpList _ _ _ _ _ wa.drew
            refine wpList_hasK rfl (.tmp 47) (.tmp 58) _ rfl nmSet HT.out (show SetK nmV nmOk wa.drew b S from hSx) ((t1, t2), (t3, t4)) hok q hq.out (HZ.out _) (by rfl) (by rfl) ?_
            have hbd : Below w6.heap.size w6 wa.drew := hbxa.drew
            have hbwd := hbw6.trans (hbd.mono hbw6.size)
            clear hSx hbxa e0 e1 m0 m1 m2 m3
            cases q
            · have HF : Hid (R = false) := Lib.hid (by rw [HR2.out]; rfl)
              clear HR2
              go_wp2
              go_ret
              exact ⟨ret_bool HF.out.symm, hbwd⟩
            · have HF : Hid (R = hasGo h S ((pairsL h).drop (i + 1))) := Lib.hid (by rw [HR2.out]; rfl)
              clear HR2
              go_wp2
              go_roundw
              case rel => exact ⟨i + 1, by omega, by go_num, HF, hbd⟩
              case measure => simp [intOf]; omega
          · have HF : Hid (R = true) := Lib.hid (by rw [HR.out, drop_end (by rw [HLQ.out]; omega)]; rfl)
            clear HR
            go_wp2
            go_ret
            exact ⟨ret_bool HF.out.symm, hbwx⟩
end Go.Proofs.Ytkpnpkikonlmpaa


namespace Go.Proofs.Ytkpnpkikonlmpaa
open Go.RowKit

def sameE (h g : List HOp) : Int := if (checkF h).2 ≠ 0 then (checkF h).2 else (checkF g).2
def sameV (h g : List HOp) : Bool := decide ((checkF h).2 = 0 ∧ (checkF g).2 = 0) && alikeB h g
set_option maxRecDepth 100000 in
set_option maxHeartbeats 4000000 in
theorem same_any (A B : Option Addr) (n m c d : Nat) (h g : List HOp) (w : World) (hr : Rd w w.heap.size 3 A n (cellsH h)) (hg : Rd w w.heap.size 3 B m (cellsH g)) (hn : n ≤ 6000000000000) (hm : m ≤ 6000000000000) :
    Calls Try.prog 11 #[.slice A n c, .slice B m d] w fun e w' => e = .returned (.tuple #[.bool (sameV h g), errV (sameE h g)]) ∧ Below w.heap.size w w' := by
  have HV : Hid ((checkF h).2 ≠ 0 → sameV h g = false ∧ sameE h g = (checkF h).2) := Lib.hid (fun e => by unfold sameV sameE; simp [e])
  have HV2 : Hid ((checkF h).2 = 0 → (checkF g).2 ≠ 0 → sameV h g = false ∧ sameE h g = (checkF g).2) := Lib.hid (fun e e2 => by unfold sameV sameE; simp [e, e2])
  have HV3 : Hid ((checkF h).2 = 0 → (checkF g).2 = 0 → sameV h g = alikeB h g ∧ sameE h g = 0) := Lib.hid (fun e e2 => by unfold sameV sameE; simp [e, e2])
  have CH := hide (fun w1 (hb : Below w.heap.size w w1) => right_h A n c h w1 ((hr.below hb).more hb.size) hn)
  have CG := hide (fun w1 (hb : Below w.heap.size w w1) => right_h B m d g w1 ((hg.below hb).more hb.size) hm)
  have CA := hide (fun (e1 : (checkF h).2 = 0) (e2 : (checkF g).2 = 0) w1 (hb : Below w.heap.size w w1) => alike_any A B n m c d h g w1 ((hr.below hb).more hb.size) ((hg.below hb).more hb.size) (by have := okH_len (h := h) e1; rw [hr.hlen] at this; exact this) (by have := okH_len (h := g) e2; rw [hg.hlen] at this; exact this) (okH_tx e1) (okH_tx e2))
  have hb0 : Below w.heap.size w (w.alloc (.cells #[.slice A n c, .slice B m d] 22)) := (Below.refl _ _).alloc (Nat.le_refl _) _
  have hB0 := Blk.new w 22 [.slice A n c, .slice B m d]
  generalize sameV h g = V at *
  generalize sameE h g = E at *
  generalize (checkF h).2 = e1 at *
  generalize (checkF g).2 = e2 at *
  go_enter Try.func11, Try.ntmps11
  go_wp2
  go_loopw [13] (fun s13 wr => ∃ i : Nat, i ≤ 2 ∧ s13 = .int .i64 i ∧ Hid ((1 ≤ i → e1 = 0) ∧ (2 ≤ i → e2 = 0)) ∧ Blk wr w.heap.size 22 [.slice A n c, .slice B m d] ∧ Below w.heap.size w wr) (fun s13 _ => 2 - (intOf s13).toNat)
  case atStart => exact ⟨0, by omega, rfl, Lib.hid ⟨by omega, by omega⟩, hB0, hb0⟩
  case round =>
    clear hB0 hb0
    obtain ⟨i, hi, rfl, HI, hB, hbw⟩ := hrel
    have c0 := hB.cellS (i := 0) (v := .slice A n c) rfl
    have c1 := hB.cellS (i := 1) (v := .slice B m d) rfl
    have hlt := hB.lt
    obtain hi0 | hi1 | hi2 : i = 0 ∨ i = 1 ∨ i = 2 := by omega
    · subst hi0
      have C := hide (unhide CH wr hbw)
      by_cases he : e1 = 0
      · subst he
        rw [errV_zero] at C
        go_wp2_with fail
        refine (unhide C).mono ?_
        rintro e w2 ⟨rfl, hb2⟩
        have hbw2 := hbw.trans (hb2.mono hbw.size)
        have hB2 := hB.below hb2 hlt
        go_wp2
        go_roundw
        case rel => exact ⟨1, by omega, rfl, Lib.hid ⟨fun _ => by first | exact trivial | rfl, by omega⟩, hB2, hbw2⟩
        case measure => simp [intOf]
      · rw [ne_errV he] at C
        obtain ⟨f1, f2⟩ := HV.out he
        have HF : Hid (V = false ∧ errV E = .iface 74 (.int .i64 e1)) := Lib.hid ⟨f1, by rw [f2, ne_errV he]⟩
        clear he f1 f2
        go_wp2_with fail
        refine (unhide C).mono ?_
        rintro e w2 ⟨rfl, hb2⟩
        have hbw2 := hbw.trans (hb2.mono hbw.size)
        go_wp2
        go_ret2
        exact ⟨by rw [HF.out.1, HF.out.2]; rfl, hbw2⟩
    · subst hi1
      have C := hide (unhide CG wr hbw)
      have he1 := HI.out.1 (by omega)
      by_cases he : e2 = 0
      · subst he
        rw [errV_zero] at C
        have HI2 : Hid (e1 = 0) := Lib.hid he1
        clear he1 HI
        go_wp2_with fail
        refine (unhide C).mono ?_
        rintro e w2 ⟨rfl, hb2⟩
        have hbw2 := hbw.trans (hb2.mono hbw.size)
        have hB2 := hB.below hb2 hlt
        go_wp2
        go_roundw
        case rel => exact ⟨2, by omega, rfl, Lib.hid ⟨fun _ => HI2.out, fun _ => by first | exact trivial | rfl⟩, hB2, hbw2⟩
        case measure => simp [intOf]
      · rw [ne_errV he] at C
        obtain ⟨f1, f2⟩ := HV2.out he1 he
        have HF : Hid (V = false ∧ errV E = .iface 74 (.int .i64 e2)) := Lib.hid ⟨f1, by rw [f2, ne_errV he]⟩
        clear he f1 f2 he1 HI
        go_wp2_with fail
        refine (unhide C).mono ?_
        rintro e w2 ⟨rfl, hb2⟩
        have hbw2 := hbw.trans (hb2.mono hbw.size)
        go_wp2
        go_ret2
        exact ⟨by rw [HF.out.1, HF.out.2]; rfl, hbw2⟩
    · subst hi2
      have he1 := HI.out.1 (by omega)
      have he2 := HI.out.2 (by omega)
      obtain ⟨f1, f2⟩ := HV3.out he1 he2
      have C := hide (unhide CA he1 he2 wr hbw)
      have HF : Hid (V = alikeB h g ∧ errV E = .nilIface) := Lib.hid ⟨f1, by rw [f2, errV_zero]⟩
      clear he1 he2 f1 f2 HI
      go_wp2_with fail
      refine (unhide C).mono ?_
      rintro e w2 ⟨rfl, hb2⟩
      have hbw2 := hbw.trans (hb2.mono hbw.size)
      go_wp2
      go_ret2
      exact ⟨by rw [HF.out.1, HF.out.2]; rfl, hbw2⟩
end Go.Proofs.Ytkpnpkikonlmpaa
