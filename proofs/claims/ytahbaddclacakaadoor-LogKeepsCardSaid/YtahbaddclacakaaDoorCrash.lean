
/-
  CONTRACTS of strings.LastIndex, TrimSuffix, ReplaceAll at single bytes; of the log's Crash, Values.
-/
import Derived.Test.YtahbaddclacakaaDoorLog
import Derived.Test.YtahbaddclacakaaDoorParse
import Derived.Test.YtahbaddclacakaaDoorPlay

namespace Go.Proofs.YtahbaddclacakaaDoor
open Go.RowKit Go.Shelf

theorem bxRepl : Builder.Extra Tryd.prog Tryd.lRepl_ren where
  sizeBuilder := by kernel_rfl
  liesBuilder := by kernel_rfl
  t5 := Tryd.underlying5
  a5 := Tryd.isAgg5
  z5 := Tryd.sizeOf5
  v5 := Tryd.zeroValue5
  infoByte := by kernel_rfl
  cellsByte := by kernel_rfl
  sizeByte := by kernel_rfl
  neB5 := by decide
theorem lastIx_any (l : List UInt8) (w : World) (hl : l.length ≤ 1000000000) : Calls Tryd.prog 31 #[.string ⟨l.toArray⟩, .string ⟨#[10]⟩] w fun e w' => e = .returned (.int .i64 (((cutNl l).length : Int) - 1)) ∧ w' = w := by
  have h := Any.strings_LastIndex_one Tryd.lLast ⟨l.toArray⟩ ⟨#[10]⟩ rfl (by show l.length < _; omega) w
  refine h.mono fun e w' ⟨h1, h2⟩ => ⟨h1.trans ?_, h2⟩
  rw [(last_cut l).1]
  show Ending.returned (.int .i64 (Go.Lib.lastIndexByte ⟨l.toArray⟩ 10)) = _
  rw [show Go.Lib.lastIndexByte ⟨l.toArray⟩ 10 + 1 - 1 = Go.Lib.lastIndexByte ⟨l.toArray⟩ 10 by omega]
theorem trim_any (l : List UInt8) (w : World) (hl : l.length ≤ 1000000000) : Calls Tryd.prog 33 #[.string ⟨l.toArray⟩, .string ⟨#[10]⟩] w fun e w' => e = .returned (.string ⟨(Go.Lib.trimSuffix l [10]).toArray⟩) ∧ w' = w :=
  Any.strings_TrimSuffix Tryd.lTrim ⟨l.toArray⟩ ⟨#[10]⟩ w (by show l.length ≤ _; omega)
theorem repl_any (l : List UInt8) (w : World) (hm : Mx w) (hl : l.length ≤ 1000000000) : Calls Tryd.prog 32 #[.string ⟨l.toArray⟩, .string ⟨#[10]⟩, .string ⟨#[32]⟩] w fun e w' => e = .returned (.string ⟨(l.map nlS).toArray⟩) ∧ Below w.heap.size w w' := by
  obtain ⟨m, hm⟩ := hm
  have hc := Go.Lib.countB_le ⟨#[10]⟩ (by show 1 ≤ 1; omega) l.length ⟨l.toArray⟩ (Nat.le_refl _)
  have hc2 : Go.Lib.countB ⟨l.toArray⟩ ⟨#[10]⟩ ≤ l.length := hc
  have h := Any.strings_ReplaceAll { Tryd.lRepl with } bxRepl ⟨l.toArray⟩ ⟨#[10]⟩ ⟨#[32]⟩ m w (by show l.length < _; omega) hm (by show 1 ≤ 1; omega) (by show l.length + Go.Lib.countB ⟨l.toArray⟩ ⟨#[10]⟩ * 1 ≤ _; omega)
  refine h.mono fun e w' ⟨h1, h2⟩ => ⟨h1.trans ?_, h2⟩
  show Ending.returned (.string ⟨(Go.Lib.replaceAll l [10] [32]).toArray⟩) = _
  rw [repl_all]
set_option maxRecDepth 100000 in
set_option maxHeartbeats 4000000 in
theorem crash_any (g : Nat) (s : LogSt) (keep : Int) (w : World) (hB : LogB w g s) (I : LogI s) (hk : LogOk s) (hm : Mx w) (hgm : 1 < g) : Calls Tryd.prog 15 #[.pointer (some ⟨g, 0, none⟩), .int .i64 keep] w fun e w' => e = .returned (.tuple #[]) ∧ LogB w' g (crashF s keep) ∧ w.grownBy w' (some g) := by
  have HCR := Lib.hid (crash_is I keep)
  obtain ⟨p, hb, hp, _⟩ := I.b
  have hcut : cutNl (s.b.take (keptN s keep)) = flatL (s.h.take (cntL (keptN s keep) s.h)) := by rw [hb, cut_lines s.h p _ (okH_right I.ok) hp]
  have htrim : (Go.Lib.trimSuffix (flatL (s.h.take (cntL (keptN s keep) s.h))) [10]).map nlS = printL (s.h.take (cntL (keptN s keep) s.h)) := by rw [trim_flat, flat_print (okH_right (okH_takeL I.ok _))]
  obtain ⟨hp1, hp2⟩ := parse_print (okH_takeL I.ok (cntL (keptN s keep) s.h))
  have hrk := okH_right (okH_takeL I.ok (cntL (keptN s keep) s.h))
  have hfl := flat_len (s.h.take (cntL (keptN s keep) s.h)) hrk
  have hpl := printL_len (s.h.take (cntL (keptN s keep) s.h)) hrk
  have hl40 : (s.h.take (cntL (keptN s keep) s.h)).length ≤ 40 := by rw [List.length_take]; have := hk.h; omega
  have hsafe : s.safe ≤ s.b.length := by
    obtain ⟨i, hi, hs⟩ := I.safe
    rw [hb, hs, List.length_append]
    have : (flatL (s.h.take i)).length ≤ (flatL s.h).length := by
      conv => rhs; rw [← List.take_append_drop i s.h]
      unfold flatL
      rw [List.flatMap_append, List.length_append]; omega
    omega
  have hkn : ((s.safe : Int) + max 0 (min keep ((s.b.length : Int) - s.safe))) = (keptN s keep : Int) ∧ keptN s keep ≤ s.b.length := by
    unfold keptN
    omega
  obtain ⟨hk1, hk2⟩ := hkn
  have HLI := hide (fun W => lastIx_any (s.b.take (keptN s keep)) W (by rw [List.length_take]; have := hk.b; omega))
  rw [hcut] at HLI
  have hlc := last_cut (s.b.take (keptN s keep))
  rw [hcut] at hlc
  have hext1 : (⟨s.b.toArray⟩ : ByteArray).extract 0 (keptN s keep) = ⟨(s.b.take (keptN s keep)).toArray⟩ := ext_take _ _
  have hext2 : (⟨(s.b.take (keptN s keep)).toArray⟩ : ByteArray).extract 0 (flatL (s.h.take (cntL (keptN s keep) s.h))).length = ⟨(flatL (s.h.take (cntL (keptN s keep) s.h))).toArray⟩ := by rw [ext_take, hlc.2]
  have hle2 : (flatL (s.h.take (cntL (keptN s keep) s.h))).length ≤ keptN s keep := by
    have := congrArg List.length hlc.2
    rw [List.length_take, List.length_take] at this
    omega
  have hs2 : (⟨(s.b.take (keptN s keep)).toArray⟩ : ByteArray).size = keptN s keep := by
    show (s.b.take (keptN s keep)).length = _
    rw [List.length_take]; omega
  have CT := hide (fun W => trim_any (flatL (s.h.take (cntL (keptN s keep) s.h))) W (by omega))
  have CRp := hide (fun W hm => repl_any (Go.Lib.trimSuffix (flatL (s.h.take (cntL (keptN s keep) s.h))) [10]) W hm (by
    rw [trim_flat, List.length_dropLast]; omega))
  rw [htrim] at CRp
  have CP := hide (fun W hm => parse_any (printL (s.h.take (cntL (keptN s keep) s.h))) W hm (by omega))
  rw [hp1, hp2, errV_zero] at CP
  have hs3 : (⟨(flatL (s.h.take (cntL (keptN s keep) s.h))).toArray⟩ : ByteArray).size = (flatL (s.h.take (cntL (keptN s keep) s.h))).length := rfl
  have hs1 : (⟨s.b.toArray⟩ : ByteArray).size = s.b.length := rfl
  have hb6 := hk.b
  have HG := Lib.hid hgm
  obtain ⟨A, n, c, h1, h2⟩ := hB
  clear hp1 hp2 hrk hpl hl40 hcut htrim hlc hb hp I hfl
  generalize cntL (keptN s keep) s.h = ci at *
  generalize flatL (s.h.take ci) = FL at *
  generalize printL (s.h.take ci) = PL at *
  generalize Go.Lib.trimSuffix FL [10] = TL at *
  generalize (⟨(s.b.take (keptN s keep)).toArray⟩ : ByteArray) = B1 at *
  obtain ⟨B2, hbb2⟩ : ∃ B2, (⟨FL.toArray⟩ : ByteArray) = B2 := ⟨_, rfl⟩
  rw [hbb2] at hext2 CT hs3
  have HBB := Lib.hid hbb2
  clear hbb2
  obtain ⟨fl, hfl⟩ : ∃ fl, FL.length = fl := ⟨_, rfl⟩
  rw [hfl] at HLI hext2 hle2 hs3 HCR
  have HFL := Lib.hid hfl
  clear hfl
  have hw6 : IntKind.i64.wrap ((fl : Int) - 1 + 1) = (fl : Int) := by rw [show (fl : Int) - 1 + 1 = (fl : Int) by omega]; exact IntWalk.i64_in _ (by have := hk.b; omega)
  have hw7 : Go.RowKit.wrap64 (fl : Int) = (fl : Int) := IntWalk.wrap64_in _ (by have := hk.b; omega)
  generalize keptN s keep = kn at *
  generalize crashF s keep = CR at *
  obtain ⟨sh, sb, ss, sl, sst⟩ := s
  simp only at h1 h2 hsafe hk1 hk2 hs1 hb6 hext1 HCR CP
  have hglt := h1.lt
  generalize (⟨sb.toArray⟩ : ByteArray) = SB at *
  have q1 := h1.cellS (i := 1) (v := .string SB) rfl
  have q2 := h1.cellS (i := 2) (v := .int .i64 ss) rfl
  have hw1 : IntKind.i64.wrap ((SB.size : Int) - ss) = (SB.size : Int) - ss := IntWalk.i64_in _ (by omega)
  have hw2 : ((ss : Int) + max 0 (min keep ((SB.size : Int) - ss))) = (kn : Int) := by rw [hs1]; exact hk1
  have hw3 : IntKind.i64.wrap (kn : Int) = (kn : Int) := IntWalk.i64_in _ (by omega)
  have hw4 : (0 : Int) ≤ (kn : Int) := by omega
  have hw5 : (kn : Int) ≤ (SB.size : Int) := by rw [hs1]; omega
  go_enter Tryd.func15, Tryd.ntmps15
  go_wp2
  go_region
  all_goals
    have hwd : Below w.heap.size w w.drew := (Below.refl _ _).drew
    have hB1 := h1.drew
    have hR1 : w.drew.ownsRow (g + 1) 28 3 (.slice A n c) n (cellsH sh) := h2
    have hw8 : (fl : Int) ≤ (B1.size : Int) := by rw [hs2]; omega
    have hw9 : (0 : Int) ≤ (fl : Int) := by omega
    clear q1 q2 hw1 hw2 hw3 hw4 hw5 hk1 hk2 hext1 h1 h2 hsafe hs1 hb6
    go_wp2_with (go_at_call 31; refine (unhide HLI _).mono ?_; rintro e w1 ⟨rfl, rfl⟩)
    refine (unhide CT _).mono ?_
    rintro e w1 ⟨rfl, rfl⟩
    have hmd : Mx w.drew := hm
    have CR2 := hide (unhide CRp w.drew hmd)
    clear CRp hext2 hw6 hw7 hw8 hw9 HLI CT hle2
    go_wp2_with fail
    refine (unhide CR2).mono ?_
    rintro e w2 ⟨rfl, hb2⟩
    have hb2w := hwd.trans (hb2.mono hwd.size)
    have hm2 : Mx w2 := hm.below hb2w hm.pos
    have CP2 := hide (unhide CP w2 hm2)
    have hB2 := hB1.below hb2 (by show g < w.heap.size; exact hglt)
    clear CP CR2 hR1 hB1 hmd hb2
    go_wp2_with fail
    refine (unhide CP2).mono ?_
    rintro e w3 ⟨v3, m3, rfl, ho3, hb3⟩
    obtain ⟨A3, c3, rfl⟩ := own_slice ho3
    have hbw3 := hb2w.trans (hb3.mono hb2w.size)
    have hB3 := hB2.below hb3 hB2.lt
    have hR3 := own_mono ho3 (show g + 1 ≤ w2.heap.size from hB2.lt)
    have r0 := hB3.cellS (i := 0) (v := .slice A n c) rfl
    have r1 := hB3.cellS (i := 1) (v := .string SB) rfl
    have r2 := hB3.cellS (i := 2) (v := .int .i64 ss) rfl
    have r3 := hB3.cellS (i := 3) (v := .int .i64 sl) rfl
    have r4 := hB3.cellS (i := 4) (v := .bool sst) rfl
    have f0 := hB3.frozen 0
    have f1 := hB3.frozen 1
    have f2 := hB3.frozen 2
    have f3 := hB3.frozen 3
    have f4 := hB3.frozen 4
    have hgr := grown_below hbw3 (some g)
    clear CP2 ho3 hb3 hB2 hb2w hbw3
    go_wp2
    have E := ((((hB3.put 0 (.slice A3 m3 c3)).put 1 (.string B2)).put 2 (.int .i64 (fl : Int))).put 3 (.int .i64 (-1))).put 4 (.bool false)
    have G5 := ((((grown_cell w3 g 0 (.slice A3 m3 c3)).trans (grown_cell _ g 1 (.string B2))).trans (grown_cell _ g 2 (.int .i64 (fl : Int)))).trans (grown_cell _ g 3 (.int .i64 (-1)))).trans (grown_cell _ g 4 (.bool false))
    have R5 := own_but hR3 G5 (Nat.lt_succ_self _)
    refine bodyPost_end (results_none rfl _ _ _) rfl ?_
    obtain rfl : m3 = (sh.take ci).length := (rd_own hR3).hlen.symm
    refine ⟨rfl, ?_, hgr.trans G5⟩
    rw [HCR.out]
    refine ⟨A3, (sh.take ci).length, c3, ?_, R5⟩
    show Blk _ g 55 [.slice A3 (sh.take ci).length c3, .string ⟨FL.toArray⟩, .int .i64 (fl : Int), .int .i64 (-1), .bool false]
    rw [HBB.out]
    exact E
set_option maxHeartbeats 1000000 in
theorem values_of (g : Nat) (s : LogSt) (w : World) (hB : LogB w g s) (I : LogI s) : Calls Tryd.prog 12 #[.pointer (some ⟨g, 0, none⟩)] w fun e w' => ∃ v, e = .returned v ∧ w'.ownsRow w.heap.size 3 1 v 6 (cellsI (playF s.h).1) ∧ Below w.heap.size w w' := by
  obtain ⟨A, n, c, h1, h2⟩ := hB
  have hd := rd_own h2
  have hn : n ≤ 40 := by rw [← hd.hlen]; exact okH_len I.ok
  have c0 := h1.cellS (i := 0) (v := .slice A n c) rfl
  have CV := hide ((values_any A n c s.h w hd (by omega)).1 I.ok)
  clear h1 h2 hd
  go_enter Tryd.func12, Tryd.ntmps12
  go_wp2_with fail
  refine (unhide CV).mono ?_
  rintro e w1 ⟨v1, rfl, ho1, hb1⟩
  obtain ⟨A1, c1, rfl⟩ := own_slice ho1
  go_wp2
  go_ret
  exact ⟨_, rfl, ho1, hb1⟩
end Go.Proofs.YtahbaddclacakaaDoor
