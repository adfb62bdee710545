
/-
  CONTRACT of mix.each's walk: a closure that calls itself and a given one (see).
  CONTRACT of mix.each's walk: the walk itself.
-/
import Derived.Test.YtmehghkpghbpjaaGreatQ25
import Derived.Test.YtmehghkpghbpjaaGreatQ2
import Derived.Test.YtmehghkpghbpjaaGreatQ1
import Derived.Deep.RegionHeld3
import Derived.RegionTactic
import Derived.BigRegion

namespace Go.Proofs.YtmehghkpghbpjaaGreat
open Go.RowKit

/-- What the given closure does, of orders that came: J as long as it goes on, Jx when it ends it. -/
structure SeeC (gr : Nat) (F : FuncId) (caps : Array Value) (S : Nat → Prop) (all : List (List HOp)) (J Jx : List (List HOp) → World → Prop) : Prop where
  call : ∀ (args : Array Value) (W : World), (callFunc F args).run Tryz.prog W = .ok (.enter F args) W
  step : ∀ pre m A n c W, pre ++ [m] <+: all → J pre W → n ≤ c → (∀ W', Chg (fun k => k = gr ∨ S k) W W' → Rd W' W'.heap.size 3 A n (cellsH m)) → Calls Tryz.prog F (#[.slice A n c] ++ caps) W fun e W' => Chg S W W' ∧ ((e = .returned (.bool true) ∧ J (pre ++ [m]) W') ∨ (e = .returned (.bool false) ∧ Jx (pre ++ [m]) W'))
  keepJ : ∀ pre W W', J pre W → Chg (fun k => k = gr) W W' → J pre W'
  keepX : ∀ pre W W', Jx pre W → Chg (fun k => k = gr) W W' → Jx pre W'
def rowsV (V : Int → Value) : List Value := [V 0, V 1, V 2, V 3, V 4, V 5, V 6]
def mixT (n : Nat) (R : Int → List HOp) (b : List HOp) (t : Int) : List (List HOp) := match R t with
  | [] => []
  | o :: r => mixL n (updM R t r) (b ++ [o])
def mixU (n : Nat) (R : Int → List HOp) (b : List HOp) (k : Nat) : List (List HOp) := (List.range k).flatMap fun (i : Nat) => mixT n R b (i : Int)
theorem mixU_all {n : Nat} {R : Int → List HOp} {b : List HOp} (h0 : R 0 = []) : mixU n R b 7 = mixL (n + 1) R b := by
  have e : mixT n R b 0 = [] := by unfold mixT; rw [h0]
  have e2 : mixL (n + 1) R b = sixI.flatMap (mixT n R b) := rfl
  rw [e2]
  show (mixT n R b ((0 : Nat) : Int)) ++ _ = _
  rw [show ((0 : Nat) : Int) = 0 from rfl, e]
  rfl
theorem mixU_succ (n : Nat) (R : Int → List HOp) (b : List HOp) (k : Nat) : mixU n R b (k + 1) = mixU n R b k ++ mixT n R b k := by
  unfold mixU
  rw [List.range_succ, List.flatMap_append]
  simp
theorem mixU_pre (n : Nat) (R : Int → List HOp) (b : List HOp) (k : Nat) : ∀ j, ∃ z, mixU n R b (k + j) = mixU n R b k ++ z
  | 0 => ⟨[], by simp⟩
  | j + 1 => by
    obtain ⟨z, h⟩ := mixU_pre n R b k j
    exact ⟨z ++ mixT n R b ((k + j : Nat) : Int), by rw [← Nat.add_assoc, mixU_succ, h, List.append_assoc]⟩
/-- What walk finds. -/
structure WkI (lo gh gs gr gk : Nat) (F : FuncId) (caps : Array Value) (S : Nat → Prop) (Ah : Option Addr) (len ch : Nat) (V : Int → Value) (R : Int → List HOp) (W : World) : Prop where
  hh : Blk W gh 22 [.slice Ah len ch]
  hs : Blk W gs 55 [.func (.func F) #[] caps]
  hr : Blk W gr 108 (rowsV V)
  hk : Blk W gk 55 [.func (.func 52) #[] #[.pointer (some ⟨gh, 0, none⟩), .pointer (some ⟨gs, 0, none⟩), .pointer (some ⟨gr, 0, none⟩), .pointer (some ⟨gk, 0, none⟩)]]
  rows : ∀ t : Int, 0 ≤ t → t ≤ 6 → QRow W lo 54 (V t) (R t)
  sep : ∀ t : Int, 0 ≤ t → t ≤ 6 → ∀ k, (V t).ownBlock = some k → k ≠ gr ∧ ¬ S k
  nh : gh ≠ gr ∧ ¬ S gh
  ns : gs ≠ gr ∧ ¬ S gs
  nk : gk ≠ gr ∧ ¬ S gk
  nr : ¬ S gr
  slt : ∀ k, S k → k < W.heap.size
theorem WkI.chg {lo gh gs gr gk : Nat} {F : FuncId} {caps : Array Value} {S : Nat → Prop} {Ah : Option Addr} {len ch : Nat} {V : Int → Value} {R : Int → List HOp} {W W' : World} (h : WkI lo gh gs gr gk F caps S Ah len ch V R W) (hc : Chg (fun k => k = gr ∨ S k) W W') (hr : Blk W' gr 108 (rowsV V)) : WkI lo gh gs gr gk F caps S Ah len ch V R W' :=
  ⟨h.hh.chg hc (fun e => e.elim h.nh.1 h.nh.2), h.hs.chg hc (fun e => e.elim h.ns.1 h.ns.2), hr, h.hk.chg hc (fun e => e.elim h.nk.1 h.nk.2), fun t h0 h6 => (h.rows t h0 h6).kept fun g hg => hc.block g ((h.rows t h0 h6).lt hg).2 (fun e => e.elim (h.sep t h0 h6 g hg).1 (h.sep t h0 h6 g hg).2), h.sep, h.nh, h.ns, h.nk, h.nr, fun k hk => Nat.lt_of_lt_of_le (h.slt k hk) hc.size⟩
theorem run_appB {P : Program} {w : World} {t ty e : TypeId} (T : SlT P t e 3 24) {B : Nat} {A : Option Addr} {n : Nat} {olds : List Value} (hr : Rd w B 3 A n olds) (hn : A = none → n = 0) {B2 : Nat} {A2 : Option Addr} {c2 : Nat} {x : HOp} (hx : Rd w B2 3 A2 1 (cellsH [x])) (hb : (n + 1) * 24 ≤ 140737488355328) :
    ∃ v' w', (Builtin.append_ #[t, t] ty #[.slice A n n, .slice A2 1 c2]).run P w = .ok v' w' ∧ w'.ownsRow w.heap.size e 3 v' (n + 1) (olds ++ cellsH [x]) ∧ w.grownBy w' none := by
  cases A with
  | none =>
    obtain rfl := hn rfl
    have h0 : olds = [] := List.eq_nil_of_length_eq_zero (by simpa using hr.1)
    subst h0
    obtain ⟨v', w', hrun, h1, h2, _, _⟩ := run_app (P := P) (ty := ty) (base := w.heap.size) (c := c2) T (World.ownsRow_nil w w.heap.size e 3) hx (oneH _) (by omega) (Nat.le_refl _)
    exact ⟨v', w', hrun, h1, h2⟩
  | some a =>
    obtain ⟨i, z, ht, hi, hz, hsize, hby, hzs, h0, hb0, _⟩ := T
    obtain ⟨b2, off2, rfl, _, hc2⟩ := hx.2 (by omega)
    have hnews : ∀ (j : Nat) (u : Value), (cellsH [x])[j]? = some u → w.cell? ((⟨b2, off2, none⟩ : Addr).add j) = some u := by
      intro j u hu
      have := hc2 j u hu
      unfold Addr.add
      split
      · next h => subst h; simpa using this
      · exact this
    have holds : ∀ j u, olds[j]? = some u → w.cell? (a.add j) = some u := by
      intro j u hu
      rcases Nat.eq_zero_or_pos n with h | h
      · subst h
        have hn : olds = [] := List.eq_nil_of_length_eq_zero (by simpa using hr.1)
        subst hn
        simp at hu
      · obtain ⟨b, off, h, _, hc⟩ := hr.2 h
        injection h with h
        subst h
        have hj := hc j u hu
        unfold Addr.add
        split
        · next h => subst h; simpa using hj
        · exact hj
    exact run_append_arg_grows (P := P) (w := w) t ty e i z 3 24 ht hi hz hsize hby hzs (by omega) a n n olds hr.1 holds ⟨b2, off2, none⟩ 1 c2 (cellsH [x]) (by simp [cellsH]) hnews (by omega) (by unfold maxLen; omega) hb
theorem step_appB {P : Program} {w : World} {ops : Array Oper} {o : Oper} {a : Act} {K : Act → World → Prop} {Q : Exit → Act → World → Prop} {E : Prop} (hgd : o.guard = none) (s x : Operand) (t : TypeId)
    (ho : o.op = .call { callee := .builtin .append, args := #[s, x], argTypes := #[t, t] })
    {e : TypeId} (T : SlT P t e 3 24) {B : Nat} {A : Option Addr} {n : Nat} {olds : List Value} (hs : a.eval s = .slice A n n) (hr : Rd w B 3 A n olds) (hn : A = none → n = 0) {B2 : Nat} {A2 : Option Addr} {c2 : Nat} {y : HOp} (hx : a.eval x = .slice A2 1 c2) (hy : Rd w B2 3 A2 1 (cellsH [y])) (hb : (n + 1) * 24 ≤ 140737488355328)
    (h : ∀ v' w', w'.ownsRow w.heap.size e 3 v' (n + 1) (olds ++ cellsH [y]) → w.grownBy w' none → K (a.put o.dst v') w') :
    if Region.wanted o (yielded ops a.tmps) = true then Oper.wp P o a w K Q else E := by
  rw [if_pos (by simp [Region.wanted, hgd])]
  obtain ⟨v', w', hrun, h1, h2⟩ := run_appB (P := P) (ty := o.type) (c2 := c2) T hr hn hy hb
  unfold Oper.wp execOp
  simp only [ho, resolve, invoke, builtin, Sem.run_bind, Sem.run_pure, Result.andThen_ok, List.map_toArray, List.map_cons, List.map_nil, hs, hx, hrun]
  exact h v' w' h1 h2
theorem index_rows (V : Int → Value) (k : Nat) (hk : k < 7) (w : World) : (Instr.index 108 (.agg #[V 0, V 1, V 2, V 3, V 4, V 5, V 6]) (.int .i64 (k : Int))).run Tryz.prog w = .ok (V k) w := by
  have hu : Tryz.prog.underlying 108 = some (.array 7 22) := by kernel_rfl
  have hs : (sizeOf 22).run Tryz.prog w = .ok 1 w := by kernel_rfl
  have h : k = 0 ∨ k = 1 ∨ k = 2 ∨ k = 3 ∨ k = 4 ∨ k = 5 ∨ k = 6 := by omega
  rcases h with rfl | rfl | rfl | rfl | rfl | rfl | rfl <;> simp [Instr.index, run_underlying hu, asIntOf, part, hs]
end Go.Proofs.YtmehghkpghbpjaaGreat


namespace Go.Proofs.YtmehghkpghbpjaaGreat
open Go.RowKit

def updV (V : Int → Value) (k : Int) (v : Value) : Int → Value := fun x => if x = k then v else V x
theorem rowsV_set (V : Int → Value) (k : Nat) (hk : k < 7) (v : Value) : (rowsV V).set k v = rowsV (updV V k v) := by
  have h : k = 0 ∨ k = 1 ∨ k = 2 ∨ k = 3 ∨ k = 4 ∨ k = 5 ∨ k = 6 := by omega
  rcases h with rfl | rfl | rfl | rfl | rfl | rfl | rfl <;> simp [rowsV, updV]
theorem rowsV_get (V : Int → Value) (k : Nat) (hk : k < 7) : (rowsV V)[k]? = some (V k) := by
  have h : k = 0 ∨ k = 1 ∨ k = 2 ∨ k = 3 ∨ k = 4 ∨ k = 5 ∨ k = 6 := by omega
  rcases h with rfl | rfl | rfl | rfl | rfl | rfl | rfl <;> simp [rowsV]
theorem updV_back (V : Int → Value) (k : Int) (v : Value) : updV (updV V k v) k (V k) = V := by
  funext x
  unfold updV
  split
  · rename_i h; rw [h]
  · rfl
theorem WkI.step {lo gh gs gr gk : Nat} {F : FuncId} {caps : Array Value} {S : Nat → Prop} {Ah : Option Addr} {len ch : Nat} {V : Int → Value} {R : Int → List HOp} {W : World} (h : WkI lo gh gs gr gk F caps S Ah len ch V R W) {k : Nat} (hk : k < 7) {v : Value} {r : List HOp} (hq : QRow W lo 54 v r) (ho : v.ownBlock = (V k).ownBlock) :
    WkI lo gh gs gr gk F caps S Ah len ch (updV V k v) (updM R k r) (W.setCell ⟨gr, k, none⟩ v) := by
  have hc : Chg (fun k => k = gr ∨ S k) W (W.setCell ⟨gr, k, none⟩ v) := (Chg.refl _ _).set (.inl (.inl rfl)) v
  have hs : ∀ g, g ≠ gr → (W.setCell ⟨gr, k, none⟩ v).heap[g]? = W.heap[g]? := fun g hg => Below.heap_setCell W _ v g hg
  refine ⟨h.hh.far (fun e => h.nh.1 e) v, h.hs.far (fun e => h.ns.1 e) v, by rw [← rowsV_set V k hk]; exact h.hr.put k v, h.hk.far (fun e => h.nk.1 e) v, fun t h0 h6 => ?_, fun t h0 h6 => ?_, h.nh, h.ns, h.nk, h.nr, fun j hj => Nat.lt_of_lt_of_le (h.slt j hj) hc.size⟩
  · unfold updV updM
    by_cases e : t = k
    · subst e
      rw [if_pos rfl, if_pos rfl]
      exact hq.kept fun g hg => hs g (h.sep k (by omega) (by omega) g (ho.symm.trans hg)).1
    · rw [if_neg e, if_neg e]
      exact (h.rows t h0 h6).kept fun g hg => hs g (h.sep t h0 h6 g hg).1
  · unfold updV
    by_cases e : t = k
    · subst e
      rw [if_pos rfl]
      intro g hg
      exact h.sep k (by omega) (by omega) g (ho.symm.trans hg)
    · rw [if_neg e]
      exact h.sep t h0 h6
/-- What walk leaves. -/
def WkPost (gr : Nat) (S : Nat → Prop) (J Jx : List (List HOp) → World → Prop) (V : Int → Value) (ms pre : List (List HOp)) (W : World) (e : Ending) (W' : World) : Prop :=
  Chg (fun k => k = gr ∨ S k) W W' ∧ Blk W' gr 108 (rowsV V) ∧ ((e = .returned (.bool true) ∧ J (pre ++ ms) W') ∨ (e = .returned (.bool false) ∧ ∃ p q, ms = p ++ q ∧ 0 < p.length ∧ Jx (pre ++ p) W'))
def WkCall (lo gh gs gr gk : Nat) (F : FuncId) (caps : Array Value) (S : Nat → Prop) (all : List (List HOp)) (J Jx : List (List HOp) → World → Prop) (Ah : Option Addr) (len ch n : Nat) : Prop :=
  ∀ (R : Int → List HOp) (V : Int → Value) (b : List HOp) (Ab : Option Addr) (nb cb : Nat) (W : World) (pre : List (List HOp)), R 0 = [] → totR R = n → b.length = nb → nb + n = len → nb ≤ cb → (Ab = none → nb = 0) →
    (∀ W', Chg (fun k => k = gr ∨ S k) W W' → Rd W' W'.heap.size 3 Ab nb (cellsH b)) → (pre ++ mixL n R b <+: all) → WkI lo gh gs gr gk F caps S Ah len ch V R W → J pre W →
    Calls Tryz.prog 52 #[.slice Ab nb cb, .pointer (some ⟨gh, 0, none⟩), .pointer (some ⟨gs, 0, none⟩), .pointer (some ⟨gr, 0, none⟩), .pointer (some ⟨gk, 0, none⟩)] W (WkPost gr S J Jx V (mixL n R b) pre W)

theorem own_capM {w : World} {base : Nat} {e : TypeId} {size : Nat} {A : Option Addr} {n c : Nat} {xs : List Value} (h : w.ownsRow base e size (.slice A n c) n xs) : n ≤ c ∧ (A = none → n = 0) := by
  rcases h.2 with ⟨hv, h0⟩ | ⟨g, cap, cur, hv, _, _, hnc, _⟩
  · injection hv with _ h1 h2; exact ⟨by omega, fun _ => h0⟩
  · injection hv with hA h1 h2; exact ⟨by omega, fun e => by rw [e] at hA; cases hA⟩
set_option maxRecDepth 100000 in
set_option maxHeartbeats 2000000 in
theorem mwalk_zero {lo gh gs gr gk : Nat} {F : FuncId} {caps : Array Value} {S : Nat → Prop} {all : List (List HOp)} {J Jx : List (List HOp) → World → Prop} (hS : SeeC gr F caps S all J Jx) {Ah : Option Addr} {len ch : Nat} : WkCall lo gh gs gr gk F caps S all J Jx Ah len ch 0 := by
  intro R V b Ab nb cb W pre hR0 htot hbl hnl hnc hAn hb hD hI hJ
  have hcall := hS.call
  have HSTEP := hide (hS.step pre b Ab nb cb W (by simpa [mixL] using hD) hJ hnc hb)
  have k0 := hI.hh.cellS (i := 0) (v := .slice Ah len ch) rfl
  have k1 := hI.hs.cellS (i := 0) (v := .func (.func F) #[] caps) rfl
  obtain rfl : nb = len := by omega
  have HI := Lib.hid hI
  clear hI hb hD hJ htot hR0 hbl hAn hnc hnl
  go_enter Tryz.func52, Tryz.ntmps52
  go_wp2_with fail
  refine (unhide HSTEP).mono ?_
  rintro e W' ⟨hc, h⟩
  have hc2 : Chg (fun k => k = gr ∨ S k) W W' := hc.mono fun k hk => .inl (.inr hk)
  have hr2 := HI.out.hr.chg hc (fun e => HI.out.nr e)
  rcases h with ⟨rfl, h⟩ | ⟨rfl, h⟩
  · go_wp2
    go_ret
    exact ⟨hc2, hr2, .inl ⟨rfl, h⟩⟩
  · go_wp2
    go_ret
    exact ⟨hc2, hr2, .inr ⟨rfl, [b], [], rfl, by simp, h⟩⟩

theorem mixU_lt {n : Nat} {R : Int → List HOp} {b : List HOp} {k : Nat} (hk : k < 7) (h0 : R 0 = []) : ∃ z, mixL (n + 1) R b = mixU n R b (k + 1) ++ z := by
  obtain ⟨z, h⟩ := mixU_pre n R b (k + 1) (6 - k)
  rw [show k + 1 + (6 - k) = 7 by omega, mixU_all h0] at h
  exact ⟨z, h⟩
theorem walk_again {lo gh gs gr gk : Nat} {F : FuncId} {caps : Array Value} {S : Nat → Prop} {all : List (List HOp)} {J Jx : List (List HOp) → World → Prop} (hS : SeeC gr F caps S all J Jx) {Ah : Option Addr} {len ch n : Nat} (ih : WkCall lo gh gs gr gk F caps S all J Jx Ah len ch n)
    {k : Nat} (hk : k < 7) {R : Int → List HOp} {V : Int → Value} {b r : List HOp} {o : HOp} {pre : List (List HOp)} {w7 w6 : World} {V2 : Value} {A6 : Option Addr} {nb c6 base : Nat} (hsix : (k : Int) ∈ sixI) (hRk : R k = o :: r) (hI7 : WkI lo gh gs gr gk F caps S Ah len ch (updV V k V2) (updM R k r) w7) (hJ7 : J (pre ++ mixU n R b k) w7)
    (hown : w6.ownsRow base 54 3 (.slice A6 (nb + 1) c6) (nb + 1) (cellsH b ++ cellsH [o])) (hbase : w7.heap.size ≤ base) (hc : Chg (fun _ => False) w7 w6) (hR0 : R 0 = []) (htot : totR R = n + 1) (hbl : b.length = nb) (hnl : nb + (n + 1) = len) (hD : pre ++ mixL (n + 1) R b <+: all) :
    Calls Tryz.prog 52 #[.slice A6 (nb + 1) c6, .pointer (some ⟨gh, 0, none⟩), .pointer (some ⟨gs, 0, none⟩), .pointer (some ⟨gr, 0, none⟩), .pointer (some ⟨gk, 0, none⟩)] w6 fun e W' => ∃ q : Bool, e = .returned (.bool q) ∧ Chg (fun j => j = gr ∨ S j) w6 W' ∧ Blk W' gr 108 (rowsV (updV V k V2)) ∧
      ((q = true ∧ J (pre ++ mixU n R b (k + 1)) W') ∨ (q = false ∧ ∃ p z, mixL (n + 1) R b = p ++ z ∧ 0 < p.length ∧ Jx (pre ++ p) W')) := by
  have hT := totR_upd hsix hRk
  have hmt : mixT n R b k = mixL n (updM R k r) (b ++ [o]) := by unfold mixT; rw [hRk]
  have hc' : Chg (fun j => j = gr ∨ S j) w7 w6 := hc.mono fun _ h => h.elim
  obtain ⟨h1, h2⟩ := own_capM hown
  have hown' : w6.ownsRow base 54 3 (.slice A6 (nb + 1) c6) (nb + 1) (cellsH (b ++ [o])) := by rw [cellsH_append]; exact hown
  have hm : pre ++ mixU n R b k ++ mixL n (updM R k r) (b ++ [o]) <+: pre ++ mixL (n + 1) R b := by
    obtain ⟨z, hz⟩ := mixU_lt (n := n) (b := b) hk hR0
    rw [hz, mixU_succ, hmt]
    exact ⟨z, by simp⟩
  refine (ih (updM R k r) (updV V k V2) (b ++ [o]) A6 (nb + 1) c6 w6 (pre ++ mixU n R b k) ?_ (by omega) (by simp [hbl]) (by omega) h1 h2 (fun W' hW => rd_own (own_chg hown' hW fun j hj e => ?_)) (hm.trans hD) (hI7.chg hc' (hI7.hr.chg hc fun h => h.elim)) (hS.keepJ _ _ _ hJ7 (hc.mono fun _ h => h.elim))).mono ?_
  · unfold updM
    rw [if_neg (by have := (mem_six.1 hsix).1; omega)]; exact hR0
  · have h3 := (hown'.lt j hj).1
    rcases e with e | e
    · have := hI7.hr.lt; omega
    · have := hI7.slt j e; omega
  · rintro e W' ⟨hc8, hr8, h8⟩
    rcases h8 with ⟨rfl, hJ8⟩ | ⟨rfl, p, q, hpq, hp, hJ8⟩
    · exact ⟨true, rfl, hc8, hr8, .inl ⟨rfl, by rw [mixU_succ, hmt, ← List.append_assoc]; exact hJ8⟩⟩
    · obtain ⟨z, hz⟩ := mixU_lt (n := n) (b := b) hk hR0
      refine ⟨false, rfl, hc8, hr8, .inr ⟨rfl, mixU n R b k ++ p, q ++ z, ?_, by rw [List.length_append]; omega, by rw [← List.append_assoc]; exact hJ8⟩⟩
      rw [hz, mixU_succ, hmt, hpq]
      simp
set_option maxRecDepth 100000 in
set_option maxHeartbeats 8000000 in
theorem mwalk_succ {lo gh gs gr gk : Nat} {F : FuncId} {caps : Array Value} {S : Nat → Prop} {all : List (List HOp)} {J Jx : List (List HOp) → World → Prop} (hS : SeeC gr F caps S all J Jx) {Ah : Option Addr} {len ch n : Nat} (hlen : len ≤ 40) (ih : WkCall lo gh gs gr gk F caps S all J Jx Ah len ch n) : WkCall lo gh gs gr gk F caps S all J Jx Ah len ch (n + 1) := by
  intro R V b Ab nb cb W pre hR0 htot hbl hnl hnc hAn hb hD hI hJ
  have hbnd : nb + 1 ≤ 40 := by omega
  have k0 := hI.hh.cellS (i := 0) (v := .slice Ah len ch) rfl
  have r0 := hI.hr.cellS (i := 0) (v := V 0) rfl
  have r1 := hI.hr.cellS (i := 1) (v := V 1) rfl
  have r2 := hI.hr.cellS (i := 2) (v := V 2) rfl
  have r3 := hI.hr.cellS (i := 3) (v := V 3) rfl
  have r4 := hI.hr.cellS (i := 4) (v := V 4) rfl
  have r5 := hI.hr.cellS (i := 5) (v := V 5) rfl
  have r6 := hI.hr.cellS (i := 6) (v := V 6) rfl
  have hne : ((nb : Int) == (len : Int)) = false := by simp; omega
  have HSS := Lib.hid hS
  have HIH := Lib.hid ih
  have HI0 := Lib.hid hI
  have HU := Lib.hid (mixU_all (n := n) (R := R) (b := b) hR0)
  have HD := Lib.hid hD
  have HB := Lib.hid hb
  have HNL := Lib.hid (And.intro htot (And.intro hbl hnl))
  have HR0 := Lib.hid hR0
  clear hb hD htot hR0 hbl hnl hS ih
  go_enter Tryz.func52, Tryz.ntmps52
  go_wp2
  clear r0 r1 r2 r3 r4 r5 r6 k0
  go_loopw [19] (fun s19 wr => ∃ k : Nat, k ≤ 7 ∧ s19 = .int .i64 k ∧ Chg (fun k => k = gr ∨ S k) W wr ∧ WkI lo gh gs gr gk F caps S Ah len ch V R wr ∧ J (pre ++ mixU n R b k) wr) (fun s19 _ => 7 - (intOf s19).toNat)
  case atStart => exact ⟨0, Nat.zero_le _, rfl, Chg.refl _ _, hI, by simpa [mixU] using hJ⟩
  case round =>
    clear hI hJ
    obtain ⟨k, hk, rfl, hc, hI, hJ⟩ := hrel
    by_cases hlt : k < 7
    · have hltI : (k : Int) < 7 := by omega
      have hix := index_rows V k hlt wr
      have hq := hI.rows k (by omega) (by omega)
      have HMU := Lib.hid (mixU_succ n R b k)
      cases hRk : R k with
      | nil =>
        rw [hRk] at hq
        obtain ⟨A, c, hV⟩ := hq.shape'
        rw [hV] at hix
        have HJ : Hid (J (pre ++ mixU n R b (k + 1)) wr) := Lib.hid (by
          rw [HMU.out]
          have : mixT n R b k = [] := by unfold mixT; rw [hRk]
          rw [this, List.append_nil]; exact hJ)
        simp only [List.length_nil] at hix
        have HI := Lib.hid hI
        clear hJ hI hV hq hRk
        go_wp2
        go_roundw
        case rel => exact ⟨k + 1, by omega, by go_num, hc, HI.out, HJ.out⟩
        case measure => simp [intOf]; omega
      | cons o r =>
        rw [hRk] at hq
        obtain ⟨gq, off, c, hV, hlc, hgq, z0, z1, z2, htl⟩ := hq.head
        rw [hV] at hix
        have hk0 : 1 ≤ k := by
          rcases Nat.eq_zero_or_pos k with h | h
          · subst h
            have : R 0 = [] := HR0.out
            rw [show ((0 : Nat) : Int) = 0 from rfl, this] at hRk; cases hRk
          · exact h
        have hsix : (k : Int) ∈ sixI := mem_six.2 ⟨by omega, by omega⟩
        have hT := totR_upd hsix hRk
        have HMT : Hid (mixT n R b k = mixL n (updM R k r) (b ++ [o])) := Lib.hid (by unfold mixT; rw [hRk])
        obtain ⟨V2, hV2⟩ : ∃ V2, Value.slice (some (if c = 1 then (⟨gq, off, none⟩ : Addr) else ⟨gq, off + 3, none⟩)) r.length (c - 1) = V2 := ⟨_, rfl⟩
        rw [hV2] at htl
        have hob : V2.ownBlock = (V k).ownBlock := by rw [← hV2, hV]; simp only [Value.ownBlock]; split <;> rfl
        have hI7 := hI.step hlt htl hob
        have hJ7 := HSS.out.keepJ _ _ (wr.setCell ⟨gr, k, none⟩ V2) hJ ((Chg.refl (fun j => j = gr) wr).set (p := ⟨gr, k, none⟩) (.inl rfl) V2)
        have hc7 : Chg (fun k => k = gr ∨ S k) W (wr.setCell ⟨gr, k, none⟩ V2) := hc.trans ((Chg.refl (fun j => j = gr ∨ S j) wr).set (p := ⟨gr, k, none⟩) (.inl (.inl rfl)) V2)
        have hgqr : gq ≠ gr ∧ ¬ S gq := hI.sep k (by omega) (by omega) gq (by rw [hV]; rfl)
        have hp0 : wr.cell? ⟨gr, k, none⟩ = some (V k) := hI.hr.cellS (rowsV_get V k hlt)
        have hpf := hI.hr.frozen k
        have hgrl : gr < wr.heap.size := hI.hr.lt
        obtain ⟨nr, hnr⟩ : ∃ nr, r.length = nr := ⟨_, rfl⟩
        rw [hnr] at hix hlc hV2 hV
        rw [hV] at hp0
        have HNR := Lib.hid hnr
        have hlt0 : (0 : Int) < (nr : Int) + 1 := by omega
        have hl1 : (1 : Int) ≤ (nr : Int) + 1 := by omega
        have hl2 : (nr : Int) + 1 ≤ (c : Int) := by omega
        have e1 : nr + 1 - 1 = nr := by omega
        have enb : ((nr : Int) + 1 == 0) = false := by simp; omega
        have hk0i : (0 : Int) ≤ (k : Int) := by omega
        obtain ⟨o1, o2, o3⟩ := o
        simp only at z0 z1 z2
        have zc : ∀ w', Chg (fun k => k = gr ∨ S k) wr w' → w'.cell? ⟨gq, off, none⟩ = some (.int .i64 o1) ∧ w'.cell? ⟨gq, off + 1, none⟩ = some (.int .i64 o2) ∧ w'.cell? ⟨gq, off + 2, none⟩ = some (.int .i64 o3) := fun w' h => by
          have hb := h.block gq hgq (fun e => e.elim hgqr.1 hgqr.2)
          unfold World.cell? at z0 z1 z2 ⊢
          rw [hb]
          exact ⟨z0, z1, z2⟩
        have HZ := hide (zc _ ((Chg.refl (fun k => k = gr ∨ S k) wr).set (p := ⟨gr, k, none⟩) (.inl (.inl rfl)) V2))
        have HI7 := Lib.hid hI7
        have HJ7 := Lib.hid hJ7
        have HC7 := Lib.hid hc7
        have HIr := Lib.hid hI
        have HVk := Lib.hid hV
        have HTT := Lib.hid hT
        have HRK := Lib.hid hRk
        have HSIX := Lib.hid hsix
        clear hq htl hI7 hJ7 hc7 hob hV hI hJ hc hRk zc hT hnr
        by_cases hc1 : c = 1
        · subst hc1
          obtain rfl : nr = 0 := by omega
          simp only [if_true] at hV2
          subst hV2
          go_wp2_with fail
          have hw7 : Chg (fun j => j = gr) wr (wr.setCell ⟨gr, k, none⟩ (.slice (some ⟨gq, off, none⟩) 0 (1 - 1))) := (Chg.refl (fun j => j = gr) wr).set (p := ⟨gr, k, none⟩) (.inl rfl) _
          generalize wr.setCell ⟨gr, k, none⟩ (.slice (some ⟨gq, off, none⟩) 0 (1 - 1)) = w7 at *
          obtain ⟨y0, y1, y2⟩ := unhide HZ
          have yk := HI7.out.hk.cellS (i := 0) (v := .func (.func 52) #[] #[.pointer (some ⟨gh, 0, none⟩), .pointer (some ⟨gs, 0, none⟩), .pointer (some ⟨gr, 0, none⟩), .pointer (some ⟨gk, 0, none⟩)]) rfl
          have hgq7 : gq < w7.heap.size := Nat.lt_of_lt_of_le hgq hw7.size
          have hgk7 : gk < w7.heap.size := HI7.out.hk.lt
          have HW7 := Lib.hid hw7
          have h9 : ∀ u ∈ cellsH [⟨o1, o2, o3⟩], u.oneCell' = true := oneH _
          have hBA : Rd (w7.drew.alloc (.cells (cellsH [⟨o1, o2, o3⟩]).toArray 54)) w7.heap.size.succ 3 Ab nb (cellsH b) := by
            have h := HB.out _ (HC7.out.trans ((Chg.refl (fun j => j = gr ∨ S j) w7).drew.alloc (.cells (cellsH [⟨o1, o2, o3⟩]).toArray 54)))
            exact h.more (by simp)
          have HBA := Lib.hid hBA
          have hncI : (nb : Int) ≤ (cb : Int) := by omega
          clear hBA hw7 hp0 hpf z0 z1 z2 hix
          have HSX : Hid (∀ w', Chg (fun j => j = gr ∨ S j) w7 w' → w'.cell? ⟨gk, 0, none⟩ = some (.func (.func 52) #[] #[.pointer (some ⟨gh, 0, none⟩), .pointer (some ⟨gs, 0, none⟩), .pointer (some ⟨gr, 0, none⟩), .pointer (some ⟨gk, 0, none⟩)]) ∧ w'.cell? ⟨gq, off, none⟩ = some (.int .i64 o1) ∧ w'.cell? ⟨gq, off + 1, none⟩ = some (.int .i64 o2) ∧ w'.cell? ⟨gq, off + 2, none⟩ = some (.int .i64 o3)) := Lib.hid (fun w' h => by
            have hb := h.block gq hgq7 (fun e => e.elim hgqr.1 hgqr.2)
            refine ⟨(HI7.out.hk.chg h (fun e => e.elim HI7.out.nk.1 HI7.out.nk.2)).cellS rfl, ?_⟩
            unfold World.cell? at y0 y1 y2 ⊢
            rw [hb]
            exact ⟨y0, y1, y2⟩)
          go_region_held3 (fun w' => w'.cell? ⟨gk, 0, none⟩ = some (.func (.func 52) #[] #[.pointer (some ⟨gh, 0, none⟩), .pointer (some ⟨gs, 0, none⟩), .pointer (some ⟨gr, 0, none⟩), .pointer (some ⟨gk, 0, none⟩)]) ∧ w'.cell? ⟨gq, off, none⟩ = some (.int .i64 o1) ∧ w'.cell? ⟨gq, off + 1, none⟩ = some (.int .i64 o2) ∧ w'.cell? ⟨gq, off + 2, none⟩ = some (.int .i64 o3)) (first | exact ⟨yk, y0, y1, y2⟩ | exact hS6 | exact hS8 | go_keep)
            (first
              | ((refine step_appB rfl (.tmp 36) (.tmp 40) _ rfl slt_op (A := Ab) (n := nb) (olds := cellsH b) rfl HBA.out hAn rfl (rd_new' _ _ (cellsH [⟨o1, o2, o3⟩]) (by simp) rfl) (by omega) ?_; intro v6 w6 hown6 hg6; obtain ⟨A6, c6, rfl⟩ := own_slice hown6; have hc76 : Chg (fun _ => False) w7 w6 := ((Chg.refl _ w7).drew.alloc (.cells (cellsH [⟨o1, o2, o3⟩]).toArray 54)).grown hg6 (fun k hk => by cases hk); have hS6 : w6.cell? ⟨gk, 0, none⟩ = some (.func (.func 52) #[] #[.pointer (some ⟨gh, 0, none⟩), .pointer (some ⟨gs, 0, none⟩), .pointer (some ⟨gr, 0, none⟩), .pointer (some ⟨gk, 0, none⟩)]) ∧ w6.cell? ⟨gq, off, none⟩ = some (.int .i64 o1) ∧ w6.cell? ⟨gq, off + 1, none⟩ = some (.int .i64 o2) ∧ w6.cell? ⟨gq, off + 2, none⟩ = some (.int .i64 o3) := HSX.out w6 (hc76.mono fun _ h => h.elim)))
              | (go_at_call 52; refine (walk_again HSS.out HIH.out hlt HSIX.out HRK.out HI7.out HJ7.out hown6 (by simp) hc76 HR0.out HNL.out.1 HNL.out.2.1 HNL.out.2.2 HD.out).mono ?_; rintro e w8 ⟨q, rfl, hc8, hr8, h8⟩; have hS8 := HSX.out w8 ((hc76.mono fun _ h => h.elim).trans hc8)))
          all_goals
            have hc86 : Chg (fun j => j = gr ∨ S j) w7 w8 := (hc76.mono fun _ h => h.elim).trans hc8
            have hcw8 : Chg (fun j => j = gr ∨ S j) wr w8 := (HW7.out.mono fun j h => .inl (.inl h)).trans hc86
            have hcW8 := HC7.out.trans hc86
            have hp8 := hr8.cellS (rowsV_get (updV V k _) k hlt)
            have hf8 := hr8.frozen k
            have hr9 : Blk (w8.setCell ⟨gr, k, none⟩ (.slice (some ⟨gq, off, none⟩) (0 + 1) 1)) gr 108 (rowsV V) := by
              have h := hr8.put k (.slice (some ⟨gq, off, none⟩) (0 + 1) 1)
              rw [rowsV_set _ k hlt, ← HVk.out, updV_back] at h
              rw [← HVk.out]
              exact h
            have hc9 : Chg (fun j => j = gr) w8 (w8.setCell ⟨gr, k, none⟩ (.slice (some ⟨gq, off, none⟩) (0 + 1) 1)) := (Chg.refl (fun j => j = gr) w8).set (p := ⟨gr, k, none⟩) (.inl rfl) _
            have hcW9 := hcW8.trans (hc9.mono (S' := fun j => j = gr ∨ S j) fun j h => .inl (.inl h))
            have hI9 := HIr.out.chg (hcw8.trans (hc9.mono (S' := fun j => j = gr ∨ S j) fun j h => .inl (.inl h))) hr9
            have hup : updV V k (.slice (some ⟨gq, off, none⟩) 0 (1 - 1)) k = .slice (some ⟨gq, off, none⟩) 0 (1 - 1) := by unfold updV; rw [if_pos rfl]
            rw [hup] at hp8
            rcases h8 with ⟨rfl, hJ8⟩ | ⟨rfl, p, z, hpz, hp, hJ8⟩
            · have HJ9 := Lib.hid (HSS.out.keepJ _ _ _ hJ8 hc9)
              have HI9 := Lib.hid hI9
              have HCW := Lib.hid hcW9
              clear hJ8 hc9 hI9 hcW9 hcw8 hcW8 hc86 hr9 hr8 hc8 hup hS8 hS6 hown6 hg6 hc76
              go_wp2
              go_roundw
              case rel => exact ⟨k + 1, by omega, by go_num, HCW.out, HI9.out, HJ9.out⟩
              case measure => simp [intOf]; omega
            · have HJ9 := Lib.hid (HSS.out.keepX _ _ _ hJ8 hc9)
              have HI9 := Lib.hid hI9
              have HCW := Lib.hid hcW9
              have HP := Lib.hid (And.intro hpz hp)
              clear hJ8 hc9 hI9 hcW9 hcw8 hcW8 hc86 hr9 hr8 hc8 hup hpz hp hS8 hS6 hown6 hg6 hc76
              go_wp2
              go_ret
              exact ⟨HCW.out, HI9.out.hr, .inr ⟨rfl, p, z, HP.out.1, HP.out.2, HJ9.out⟩⟩
        · have hc2 : 1 < c := by omega
          rw [if_neg hc1] at hV2
          subst hV2
          go_wp2_with fail
          have hw7 : Chg (fun j => j = gr) wr (wr.setCell ⟨gr, k, none⟩ (.slice (some ⟨gq, off + 3, none⟩) nr (c - 1))) := (Chg.refl (fun j => j = gr) wr).set (p := ⟨gr, k, none⟩) (.inl rfl) _
          generalize wr.setCell ⟨gr, k, none⟩ (.slice (some ⟨gq, off + 3, none⟩) nr (c - 1)) = w7 at *
          obtain ⟨y0, y1, y2⟩ := unhide HZ
          have yk := HI7.out.hk.cellS (i := 0) (v := .func (.func 52) #[] #[.pointer (some ⟨gh, 0, none⟩), .pointer (some ⟨gs, 0, none⟩), .pointer (some ⟨gr, 0, none⟩), .pointer (some ⟨gk, 0, none⟩)]) rfl
          have hgq7 : gq < w7.heap.size := Nat.lt_of_lt_of_le hgq hw7.size
          have hgk7 : gk < w7.heap.size := HI7.out.hk.lt
          have HW7 := Lib.hid hw7
          have h9 : ∀ u ∈ cellsH [⟨o1, o2, o3⟩], u.oneCell' = true := oneH _
          have hBA : Rd (w7.drew.alloc (.cells (cellsH [⟨o1, o2, o3⟩]).toArray 54)) w7.heap.size.succ 3 Ab nb (cellsH b) := by
            have h := HB.out _ (HC7.out.trans ((Chg.refl (fun j => j = gr ∨ S j) w7).drew.alloc (.cells (cellsH [⟨o1, o2, o3⟩]).toArray 54)))
            exact h.more (by simp)
          have HBA := Lib.hid hBA
          have hncI : (nb : Int) ≤ (cb : Int) := by omega
          clear hBA hw7 hp0 hpf z0 z1 z2 hix
          have HSX : Hid (∀ w', Chg (fun j => j = gr ∨ S j) w7 w' → w'.cell? ⟨gk, 0, none⟩ = some (.func (.func 52) #[] #[.pointer (some ⟨gh, 0, none⟩), .pointer (some ⟨gs, 0, none⟩), .pointer (some ⟨gr, 0, none⟩), .pointer (some ⟨gk, 0, none⟩)]) ∧ w'.cell? ⟨gq, off, none⟩ = some (.int .i64 o1) ∧ w'.cell? ⟨gq, off + 1, none⟩ = some (.int .i64 o2) ∧ w'.cell? ⟨gq, off + 2, none⟩ = some (.int .i64 o3)) := Lib.hid (fun w' h => by
            have hb := h.block gq hgq7 (fun e => e.elim hgqr.1 hgqr.2)
            refine ⟨(HI7.out.hk.chg h (fun e => e.elim HI7.out.nk.1 HI7.out.nk.2)).cellS rfl, ?_⟩
            unfold World.cell? at y0 y1 y2 ⊢
            rw [hb]
            exact ⟨y0, y1, y2⟩)
          go_region_held3 (fun w' => w'.cell? ⟨gk, 0, none⟩ = some (.func (.func 52) #[] #[.pointer (some ⟨gh, 0, none⟩), .pointer (some ⟨gs, 0, none⟩), .pointer (some ⟨gr, 0, none⟩), .pointer (some ⟨gk, 0, none⟩)]) ∧ w'.cell? ⟨gq, off, none⟩ = some (.int .i64 o1) ∧ w'.cell? ⟨gq, off + 1, none⟩ = some (.int .i64 o2) ∧ w'.cell? ⟨gq, off + 2, none⟩ = some (.int .i64 o3)) (first | exact ⟨yk, y0, y1, y2⟩ | exact hS6 | exact hS8 | go_keep)
            (first
              | ((refine step_appB rfl (.tmp 36) (.tmp 40) _ rfl slt_op (A := Ab) (n := nb) (olds := cellsH b) rfl HBA.out hAn rfl (rd_new' _ _ (cellsH [⟨o1, o2, o3⟩]) (by simp) rfl) (by omega) ?_; intro v6 w6 hown6 hg6; obtain ⟨A6, c6, rfl⟩ := own_slice hown6; have hc76 : Chg (fun _ => False) w7 w6 := ((Chg.refl _ w7).drew.alloc (.cells (cellsH [⟨o1, o2, o3⟩]).toArray 54)).grown hg6 (fun k hk => by cases hk); have hS6 : w6.cell? ⟨gk, 0, none⟩ = some (.func (.func 52) #[] #[.pointer (some ⟨gh, 0, none⟩), .pointer (some ⟨gs, 0, none⟩), .pointer (some ⟨gr, 0, none⟩), .pointer (some ⟨gk, 0, none⟩)]) ∧ w6.cell? ⟨gq, off, none⟩ = some (.int .i64 o1) ∧ w6.cell? ⟨gq, off + 1, none⟩ = some (.int .i64 o2) ∧ w6.cell? ⟨gq, off + 2, none⟩ = some (.int .i64 o3) := HSX.out w6 (hc76.mono fun _ h => h.elim)))
              | (go_at_call 52; refine (walk_again HSS.out HIH.out hlt HSIX.out HRK.out HI7.out HJ7.out hown6 (by simp) hc76 HR0.out HNL.out.1 HNL.out.2.1 HNL.out.2.2 HD.out).mono ?_; rintro e w8 ⟨q, rfl, hc8, hr8, h8⟩; have hS8 := HSX.out w8 ((hc76.mono fun _ h => h.elim).trans hc8)))
          all_goals
            have hc86 : Chg (fun j => j = gr ∨ S j) w7 w8 := (hc76.mono fun _ h => h.elim).trans hc8
            have hcw8 : Chg (fun j => j = gr ∨ S j) wr w8 := (HW7.out.mono fun j h => .inl (.inl h)).trans hc86
            have hcW8 := HC7.out.trans hc86
            have hp8 := hr8.cellS (rowsV_get (updV V k _) k hlt)
            have hf8 := hr8.frozen k
            have hr9 : Blk (w8.setCell ⟨gr, k, none⟩ (.slice (some ⟨gq, off, none⟩) (nr + 1) c)) gr 108 (rowsV V) := by
              have h := hr8.put k (.slice (some ⟨gq, off, none⟩) (nr + 1) c)
              rw [rowsV_set _ k hlt, ← HVk.out, updV_back] at h
              rw [← HVk.out]
              exact h
            have hc9 : Chg (fun j => j = gr) w8 (w8.setCell ⟨gr, k, none⟩ (.slice (some ⟨gq, off, none⟩) (nr + 1) c)) := (Chg.refl (fun j => j = gr) w8).set (p := ⟨gr, k, none⟩) (.inl rfl) _
            have hcW9 := hcW8.trans (hc9.mono (S' := fun j => j = gr ∨ S j) fun j h => .inl (.inl h))
            have hI9 := HIr.out.chg (hcw8.trans (hc9.mono (S' := fun j => j = gr ∨ S j) fun j h => .inl (.inl h))) hr9
            have hup : updV V k (.slice (some ⟨gq, off + 3, none⟩) nr (c - 1)) k = .slice (some ⟨gq, off + 3, none⟩) nr (c - 1) := by unfold updV; rw [if_pos rfl]
            rw [hup] at hp8
            rcases h8 with ⟨rfl, hJ8⟩ | ⟨rfl, p, z, hpz, hp, hJ8⟩
            · have HJ9 := Lib.hid (HSS.out.keepJ _ _ _ hJ8 hc9)
              have HI9 := Lib.hid hI9
              have HCW := Lib.hid hcW9
              clear hJ8 hc9 hI9 hcW9 hcw8 hcW8 hc86 hr9 hr8 hc8 hup hS8 hS6 hown6 hg6 hc76
              go_wp2
              go_roundw
              case rel => exact ⟨k + 1, by omega, by go_num, HCW.out, HI9.out, HJ9.out⟩
              case measure => simp [intOf]; omega
            · have HJ9 := Lib.hid (HSS.out.keepX _ _ _ hJ8 hc9)
              have HI9 := Lib.hid hI9
              have HCW := Lib.hid hcW9
              have HP := Lib.hid (And.intro hpz hp)
              clear hJ8 hc9 hI9 hcW9 hcw8 hcW8 hc86 hr9 hr8 hc8 hup hpz hp hS8 hS6 hown6 hg6 hc76
              go_wp2
              go_ret
              exact ⟨HCW.out, HI9.out.hr, .inr ⟨rfl, p, z, HP.out.1, HP.out.2, HJ9.out⟩⟩
    · have hk7 : k = 7 := by omega
      subst hk7
      rw [HU.out] at hJ
      go_wp2
      go_ret
      exact ⟨hc, hI.hr, .inl ⟨rfl, hJ⟩⟩
theorem mwalk_any {lo gh gs gr gk : Nat} {F : FuncId} {caps : Array Value} {S : Nat → Prop} {all : List (List HOp)} {J Jx : List (List HOp) → World → Prop} (hS : SeeC gr F caps S all J Jx) {Ah : Option Addr} {len ch : Nat} (hlen : len ≤ 40) : ∀ n, WkCall lo gh gs gr gk F caps S all J Jx Ah len ch n
  | 0 => mwalk_zero hS
  | n + 1 => mwalk_succ hS hlen (mwalk_any hS hlen n)
end Go.Proofs.YtmehghkpghbpjaaGreat
