/- DiskPlays's walk. No condition. -/
import Derived.Test.YtnphpnbliigfbaaDpL
import Derived.Test.YtnphpnbliigfbaaDpO
import Derived.Test.YtnphpnbliigfbaaRD3
import Derived.Deep.RegionHeld3
namespace Go.Proofs.Ytnphpnbliigfbaa
open Go.RowKit
set_option maxRecDepth 100000 in
theorem diskPlays_no (n : Int) (v : Value) (l : List DOp) (w : World) (hv : IsOps w v l) (h : (40 < n ∧ n ≤ 10000) ∨ 100 < l.length) : Calls Try.prog 11 #[.int .i64 n, v] w fun e w' => e = .returned (.bool true) ∧ Below w.heap.size w w' := by
  obtain ⟨a, c, rfl, _⟩ := hv
  have hal := Lib.hid (alive_true w)
  by_cases h1 : 40 < n ∧ n ≤ 10000
  · obtain ⟨h1, h2⟩ := h1
    clear h
    go_enter Try.func11, Try.ntmps11
    go_wp2_with fail
    refine hal.out.mono ?_
    rintro e w1 ⟨rfl, hb⟩
    replace hb := Lib.hid hb
    go_wp2
    go_ret
    exact ⟨rfl, hb.out⟩
  · have h3 : (100 : Int) < ((l.length : Nat) : Int) := by omega
    have h1' : n ≤ 40 ∨ 10000 < n := by omega
    clear h h1
    rcases h1' with h1 | h1
    · have h2 : ¬ 40 < n := by omega
      go_enter Try.func11, Try.ntmps11
      go_wp2_with fail
      refine hal.out.mono ?_
      rintro e w1 ⟨rfl, hb⟩
      replace hb := Lib.hid hb
      go_wp2
      go_ret
      exact ⟨rfl, hb.out⟩
    · have h2 : 40 < n := by omega
      have h4 : ¬ n ≤ 10000 := by omega
      go_enter Try.func11, Try.ntmps11
      go_wp2_with fail
      refine hal.out.mono ?_
      rintro e w1 ⟨rfl, hb⟩
      replace hb := Lib.hid hb
      go_wp2
      go_ret
      exact ⟨rfl, hb.out⟩
theorem pNew (n : Nat) (w0 w : World) (h1 : 1 ≤ n) (h2 : n ≤ 10000) (hb : Below w0.heap.size w0 w) :
    Calls Try.prog 13 #[.int .i64 n] w fun e w' => ∃ B, e = .returned (.pointer (some ⟨B, 0, none⟩)) ∧ DIn w0.heap.size w0 w' B (dnew n) :=
  iNew n h1 h2 hb hb.size
theorem pDisks (n : Nat) {w0 w : World} {B : Nat} (h1 : 1 ≤ n) (h2 : n ≤ 10000) (h : DIn w0.heap.size w0 w B (dnew n)) :
    Calls Try.prog 24 #[.int .i64 n] w fun e w' => ∃ R, e = .returned (.pointer (some ⟨R, 0, none⟩)) ∧ PD w0.heap.size (fun _ => False) w0 w' B (dnew n) R (dnew n) := by
  obtain ⟨rs, rp, m, ha, hk, hb, hz⟩ := h
  refine (rDisks n w h1 h2).mono fun e w' ⟨R, rs2, he, hr, hb2, hk2⟩ => ⟨R, he, rs, rp, m, rs2, none, ha.keep (Chg.of_below (S := fun _ => False) hb2) (fun _ _ h => h), hr, fun k a => ⟨hk k a, id⟩, fun k a => ⟨Nat.le_trans hz (hk2 k a), id⟩, fun k a b => ?_, hb.trans (hb2.mono hz), Nat.le_trans hz hb2.size, fun _ h => h.elim⟩
  have := ha.lt k a
  have := hk2 k b
  omega
set_option maxRecDepth 100000 in
theorem diskPlays_nil (n : Int) (v : Value) (l : List DOp) (w : World) (hv : IsOps w v l) (h : n < 1 ∨ 10000 < n) (hl : l.length ≤ 100) : Calls Try.prog 11 #[.int .i64 n, v] w fun e w' => e = .returned (.bool true) ∧ Below w.heap.size w w' := by
  obtain ⟨a, c, rfl, _⟩ := hv
  have hal := Lib.hid (alive_true w)
  have g3 : ¬ (100 : Int) < ((l.length : Nat) : Int) := by omega
  have hn1 := fun w => kNew_nil n w h
  have hn2 := fun w => rDisks_nil n w h
  have hfl : ∀ w, Calls Try.prog 15 #[.string ⟨#[]⟩] w fun e w' => ∃ s, e = .returned (.string s) ∧ Below w.heap.size w w' := fun w => (fill_any [] w).mono fun e w' ⟨he, hb⟩ => ⟨_, he, hb⟩
  replace hn1 := Lib.hid hn1
  replace hn2 := Lib.hid hn2
  replace hfl := Lib.hid hfl
  rcases h with h | h
  · have h2 : ¬ 40 < n := by omega
    go_enter Try.func11, Try.ntmps11
    go_wp2_with fail
    refine hal.out.mono ?_
    rintro e w1 ⟨rfl, hb⟩
    replace hb := Lib.hid hb
    go_wp2_with (first | (go_at_call 13; refine (hn1.out _).mono ?_; rintro e w' ⟨rfl, rfl⟩) | (go_at_call 24; refine (hn2.out _).mono ?_; rintro e w' ⟨rfl, rfl⟩) | (go_at_call 19; refine (nRead _ _).mono ?_; rintro e w' ⟨rfl, rfl⟩) | (go_at_call 20; refine (nStop _ _).mono ?_; rintro e w' ⟨rfl, rfl⟩) | (go_at_call 14; refine (nWrite _ _ _).mono ?_; rintro e w' ⟨rfl, rfl⟩) | (go_at_call 16; refine (nSync _).mono ?_; rintro e w' ⟨rfl, rfl⟩) | (go_at_call 21; refine (nDead _).mono ?_; rintro e w' ⟨rfl, rfl⟩) | (go_at_call 17; refine (nCrash _).mono ?_; rintro e w' ⟨rfl, rfl⟩) | (go_at_call 18; refine (nPending _).mono ?_; rintro e w' ⟨rfl, rfl⟩) | (go_at_call 22; refine (nSectors _).mono ?_; rintro e w' ⟨rfl, rfl⟩) | (go_at_call 23; refine (nCopy _).mono ?_; rintro e w' ⟨rfl, rfl⟩) | (go_at_call 15; refine (hfl.out _).mono ?_; rintro e wf ⟨sf, rfl, hbf⟩; replace hbf := Lib.hid hbf))
    go_ret
    exact ⟨rfl, hb.out.trans (hbf.out.mono hb.out.size)⟩
  · have h2 : ¬ n ≤ 10000 := by omega
    have h3 : 40 < n := by omega
    go_enter Try.func11, Try.ntmps11
    go_wp2_with fail
    refine hal.out.mono ?_
    rintro e w1 ⟨rfl, hb⟩
    replace hb := Lib.hid hb
    go_wp2_with (first | (go_at_call 13; refine (hn1.out _).mono ?_; rintro e w' ⟨rfl, rfl⟩) | (go_at_call 24; refine (hn2.out _).mono ?_; rintro e w' ⟨rfl, rfl⟩) | (go_at_call 19; refine (nRead _ _).mono ?_; rintro e w' ⟨rfl, rfl⟩) | (go_at_call 20; refine (nStop _ _).mono ?_; rintro e w' ⟨rfl, rfl⟩) | (go_at_call 14; refine (nWrite _ _ _).mono ?_; rintro e w' ⟨rfl, rfl⟩) | (go_at_call 16; refine (nSync _).mono ?_; rintro e w' ⟨rfl, rfl⟩) | (go_at_call 21; refine (nDead _).mono ?_; rintro e w' ⟨rfl, rfl⟩) | (go_at_call 17; refine (nCrash _).mono ?_; rintro e w' ⟨rfl, rfl⟩) | (go_at_call 18; refine (nPending _).mono ?_; rintro e w' ⟨rfl, rfl⟩) | (go_at_call 22; refine (nSectors _).mono ?_; rintro e w' ⟨rfl, rfl⟩) | (go_at_call 23; refine (nCopy _).mono ?_; rintro e w' ⟨rfl, rfl⟩) | (go_at_call 15; refine (hfl.out _).mono ?_; rintro e wf ⟨sf, rfl, hbf⟩; replace hbf := Lib.hid hbf))
    go_ret
    exact ⟨rfl, hb.out.trans (hbf.out.mono hb.out.size)⟩
theorem fit_write (d : Dk) (n : Int) (s : List UInt8) : (dwrite d n s).1.safe.length = d.safe.length ∧ (dwrite d n s).1.pend.length ≤ d.pend.length + 1 := by
  unfold dwrite
  split
  · exact ⟨rfl, by simp⟩
  · split
    · exact ⟨rfl, by simp⟩
    · split
      · exact ⟨rfl, by simp⟩
      · split
        · exact ⟨rfl, by simp⟩
        · exact ⟨rfl, by simp⟩
theorem fit_sync (d : Dk) : (dsync d).1.safe.length = d.safe.length ∧ (dsync d).1.pend.length ≤ d.pend.length := by
  unfold dsync
  split
  · exact ⟨rfl, Nat.le_refl _⟩
  · exact ⟨by simp [dset_length], by simp⟩
theorem fit_stop (d : Dk) (n : Int) : (dstop d n).safe.length = d.safe.length ∧ (dstop d n).pend.length = d.pend.length := by
  unfold dstop
  split <;> exact ⟨rfl, rfl⟩
theorem fit_crash (d : Dk) (ks : List Bool) : (dcrash d ks).1.safe.length = d.safe.length ∧ (dcrash d ks).1.pend = [] := ⟨by simp [dcrash, dset_length], rfl⟩
/-- In a round: both disks, the operation. -/
structure DpS (ob : Nat) (op : DOp) (u : Value) (H : Nat) (w0 w : World) (B : Nat) (d : Dk) (R : Nat) (e : Dk) : Prop where
  pd : PD H (fun k => k = ob) w0 w B d R e
  opc : w.heap[ob]? = some (.cells #[.int .i64 op.kind, .int .i64 op.n, .string (Go.Proofs.Ytnphpnbliigfbaa.mk op.b), .bool op.raw, u] 48 (0, 0))
section
variable {ob H B R : Nat} {op : DOp} {u : Value} {w0 w w' : World} {d d' e e' : Dk}
theorem DpS.start {o : Obj} (h : PD H (fun _ => False) w0 w B d R e) (ho : o = .cells #[.int .i64 op.kind, .int .i64 op.n, .string (Go.Proofs.Ytnphpnbliigfbaa.mk op.b), .bool op.raw, u] 48) : DpS w.heap.size op u H w0 (w.alloc o) B d R e := by
  subst ho
  exact ⟨(h.widen (World.grownBy_alloc w _ none) (by simp)).shrink (fun k e => .inr e), heap_alloc_new w _⟩
theorem DpS.step {B' : Nat} (h : DpS ob op u H w0 w B d R e) (hp : PD H (fun k => k = ob) w0 w' B' d' R e') (hc : Chg (fun k => ¬ k = ob) w w') : DpS ob op u H w0 w' B' d' R e' := ⟨hp, hc.heap h.opc (fun e => e rfl)⟩
theorem DpS.more (h : DpS ob op u H w0 w B d R e) (hb : Below w.heap.size w w') : DpS ob op u H w0 w' B d R e := ⟨h.pd.more hb, (Chg.of_below (S := fun _ => False) hb).heap h.opc id⟩
theorem DpS.cells (h : DpS ob op u H w0 w B d R e) : w.cell? ⟨ob, 0, none⟩ = some (.int .i64 op.kind) ∧ w.cell? ⟨ob, 1, none⟩ = some (.int .i64 op.n) ∧ w.cell? ⟨ob, 2, none⟩ = some (.string (Go.Proofs.Ytnphpnbliigfbaa.mk op.b)) ∧ w.cell? ⟨ob, 3, none⟩ = some (.bool op.raw) ∧ w.cell? ⟨ob, 4, none⟩ = some u ∧ ob < w.heap.size :=
  ⟨cell_of h.opc rfl, cell_of h.opc rfl, cell_of h.opc rfl, cell_of h.opc rfl, cell_of h.opc rfl, lt_of h.opc⟩
theorem DpS.loads (h : DpS ob op u H w0 w B d R e) : w.cell? ⟨ob, 1, none⟩ = some (.int .i64 op.n) ∧ w.cell? ⟨ob, 4, none⟩ = some u ∧ ob < w.heap.size := ⟨cell_of h.opc rfl, cell_of h.opc rfl, lt_of h.opc⟩
theorem DpS.done (h : DpS ob op u H w0 w B d R e) : PD H (fun _ => False) w0 w B d R e := h.pd.shrink (fun _ h => h.elim)
theorem PD.quiet {K : Nat → Prop} {n : Nat} (h : PD H K w0 w B d R e) (hn : d.safe.length = n) :
    (∀ m, Calls Try.prog 21 #[.pointer (some ⟨B, 0, none⟩)] (w.drewN m) fun en w' => en = .returned (.bool d.dead) ∧ ∃ m', w' = w.drewN m') ∧
    (∀ m, Calls Try.prog 18 #[.pointer (some ⟨B, 0, none⟩)] (w.drewN m) fun en w' => en = .returned (.int .i64 (d.pend.length : Int)) ∧ ∃ m', w' = w.drewN m') ∧
    (∀ m, Calls Try.prog 22 #[.pointer (some ⟨B, 0, none⟩)] (w.drewN m) fun en w' => en = .returned (.int .i64 (n : Int)) ∧ ∃ m', w' = w.drewN m') ∧
    ∀ m, PD H (fun _ => False) w0 (w.drewN m) B d R e := by
  have hd : ∀ m, PD H K w0 (w.drewN m) B d R e := fun m => h.kept (S := fun _ => False) ((Chg.refl _ _).drewN m) (fun _ h => h.elim)
  subst hn
  exact ⟨fun m => (pDead (hd m)).mono fun e w' ⟨he, hw⟩ => ⟨he, m, hw.symm⟩, fun m => (pPending (hd m)).mono fun e w' ⟨he, hw⟩ => ⟨he, m, hw.symm⟩, fun m => (pSectors (hd m)).mono fun e w' ⟨he, hw⟩ => ⟨he, m, hw.symm⟩, fun m => (hd m).shrink (fun _ h => h.elim)⟩
/-- The document's disk's cells that are read. -/
theorem PD.rcells {K : Nat → Prop} (h : PD H K w0 w B d R e) : ∃ ap cp, w.cell? ⟨R, 1, none⟩ = some (.slice ap e.pend.length cp) ∧ w.cell? ⟨R, 2, none⟩ = some (.bool e.dead) ∧ R < w.heap.size := by
  obtain ⟨_, _, _, _, _, _, h2, _⟩ := h
  obtain ⟨_, _, ap, cp, _, c1, c2, _, _, hl⟩ := h2.cells
  exact ⟨ap, cp, c1, c2, hl⟩
end
set_option maxRecDepth 100000 in
set_option maxHeartbeats 6400000 in
theorem diskPlays_yes (n : Nat) (a : Option Addr) (c : Nat) (l : List DOp) (w : World) (hA : ∀ j (h : j < l.length), OpAt w a j l[j]) (h1 : 1 ≤ n) (h2 : n ≤ 40) (h3 : l.length ≤ 100) :
    Calls Try.prog 11 #[.int .i64 (n : Int), .slice a l.length c] w fun e w' => e = .returned (.bool true) ∧ Below w.heap.size w w' := by
  have hal := Lib.hid (alive_true w)
  have g1 : ¬ (40 : Int) < ((n : Nat) : Int) := by omega
  have g3 : ¬ (100 : Int) < ((l.length : Nat) : Int) := by omega
  replace hA := Lib.hid hA
  go_enter Try.func11, Try.ntmps11
  go_wp2_with fail
  refine hal.out.mono ?_
  rintro e w1 ⟨rfl, hb1⟩
  have c1 := pNew n w w1 h1 (by omega) hb1
  replace c1 := Lib.hid c1
  clear hb1
  go_wp2_with fail
  refine c1.out.mono ?_
  rintro e w2 ⟨B, rfl, p2⟩
  have c2 := pDisks n h1 (by omega) p2
  replace c2 := Lib.hid c2
  clear c1 p2
  go_wp2_with fail
  refine c2.out.mono ?_
  rintro e w3 ⟨R, rfl, p3⟩
  replace p3 := Lib.hid p3
  clear c2
  go_wp2
  go_loopg [92, 5] l.length (fun g iv dv wr => ∃ (k B : Nat) (d : Dk), g + k = l.length ∧ iv = .int .i64 k ∧ dv = .pointer (some ⟨B, 0, none⟩) ∧ d.safe.length = n ∧ d.pend.length ≤ k ∧ Aside (PD w.heap.size (fun _ => False) w wr B d R d))
  case atStart => exact ⟨0, B, dnew n, rfl, rfl, rfl, by simp [dnew], by simp [dnew], p3.out⟩
  case round =>
    obtain ⟨i, B, d, hi, rfl, rfl, hn, hp, hI⟩ := hrel
    have i6 := hI.out
    by_cases hlt : i < l.length
    · obtain ⟨x, hx⟩ : ∃ x, x = l[i] := ⟨_, rfl⟩
      have hop := hA.out i hlt
      rw [← hx] at hop
      obtain ⟨x1, x2, b3, o3, u, rfl, d0, d1, d2, d3, d4, hkb⟩ := hop
      replace d0 := (World.cell?_of_block (w := w) (i6.was.1.block _ (World.block_lt_of_cell? w _ d0))).trans d0
      replace d1 := (World.cell?_of_block (w := w) (i6.was.1.block _ (World.block_lt_of_cell? w _ d1))).trans d1
      replace d2 := (World.cell?_of_block (w := w) (i6.was.1.block _ (World.block_lt_of_cell? w _ d2))).trans d2
      replace d3 := (World.cell?_of_block (w := w) (i6.was.1.block _ (World.block_lt_of_cell? w _ d3))).trans d3
      replace d4 := (World.cell?_of_block (w := w) (i6.was.1.block _ (World.block_lt_of_cell? w _ d4))).trans d4
      have hbl := World.block_lt_of_cell? wr _ d0
      obtain ⟨kd, nn, bb, raw, ks⟩ := x
      replace hx := Lib.hid hx
      obtain ⟨ak, ck, rfl, hbk⟩ := hkb
      simp only at x1 x2 d0 d1 d2 d3 d4 hbk
      have hsz := mk_size bb
      have hS := DpS.start (op := ⟨kd, nn, bb, raw, ks⟩) (u := .slice ak ks.length ck) i6 rfl
      have hB := Lib.hid ((i6.was.1).alloc i6.was.2 (.cells #[.int .i64 kd, .int .i64 nn, .string (mk bb), .bool raw, .slice ak ks.length ck] 48))
      obtain ⟨oc0, oc1, oc2, oc3, oc4, ocl⟩ := hS.cells
      simp only at oc0 oc1 oc2 oc3 oc4
      replace hS := Lib.hid hS
      replace hbk := Lib.hid hbk
      clear hI i6 p3
      by_cases hbb : (200 : Int) < (((mk bb).size : Nat) : Int)
      · go_wp2
        go_ret
        exact ⟨rfl, hB.out⟩
      by_cases hkk : (60 : Int) < ((ks.length : Nat) : Int)
      · go_wp2
        go_ret
        exact ⟨rfl, hB.out⟩
      by_cases hk1 : kd = 1
      · subst hk1
        obtain ⟨⟨s, er⟩, hq⟩ : ∃ q, q = dread d nn := ⟨_, rfl⟩
        have cA := Lib.hid (pRead nn hq.symm hS.out.pd)
        have cB := Lib.hid (pRRead nn hq.symm hS.out.pd)
        replace hq := Lib.hid hq
        go_wp2_with fail
        refine cA.out.mono ?_
        rintro e w' ⟨rfl, rfl⟩
        go_wp2_with fail
        refine cB.out.mono ?_
        rintro e w' ⟨rfl, rfl⟩
        obtain ⟨cD, cP, cS, hdone⟩ := hS.out.pd.quiet hn
        obtain ⟨rap, rcp, rc1, rc2, rcl⟩ := hS.out.pd.rcells
        replace cD := Lib.hid cD
        replace cP := Lib.hid cP
        replace cS := Lib.hid cS
        replace hdone := Lib.hid hdone
        clear cA cB oc0 oc1 oc2 oc3 oc4 ocl
        go_wp2
        go_quiet (first | exact cD.out _ | exact cP.out _ | exact cS.out _)
        go_wp2
        go_roundg (l.length - (i + 1))
        case rel => exact ⟨i + 1, B, d, by omega, by go_num, rfl, hn, (by omega), hdone.out _⟩
        case measure => omega
      by_cases hk2 : kd = 2
      · subst hk2
        cases raw with
        | true =>
          have hft := fit_write d nn bb
          obtain ⟨⟨d', er⟩, hq⟩ : ∃ q, q = dwrite d nn bb := ⟨_, rfl⟩
          replace hS := Lib.hid (hS.out.more (Below.refl _ _).drew)
          have cW := pWrite nn bb hq.symm (by omega) hS.out.pd
          rw [← hq] at hft
          have hn' : d'.safe.length = n := by have := hft.1; simp only at this; omega
          have hp' : d'.pend.length ≤ i + 1 := by have := hft.2; simp only at this; omega
          replace cW := Lib.hid cW
          replace hft := Lib.hid hft
          replace hq := Lib.hid hq
          go_wp2
          go_region_held3 (fun x => x.cell? ⟨wr.heap.size, 1, none⟩ = some (.int .i64 nn) ∧ x.cell? ⟨wr.heap.size, 4, none⟩ = some (.slice ak ks.length ck) ∧ wr.heap.size < x.heap.size) (first | assumption | (exact ⟨oc1, oc4, ocl⟩) | (exact S5.out) | (exact S6.out))
            (first | (go_at_call 14; refine cW.out.mono ?_; rintro e w5 ⟨rfl, p5, hc5⟩; have s5 := hS.out.step p5 hc5; have cR := Lib.hid (pRWrite nn bb hq.out.symm (by omega) s5.pd); have S5 := Lib.hid s5.loads; replace s5 := Lib.hid s5; clear p5 hc5) | (go_at_call 26; refine cR.out.mono ?_; rintro e w6 ⟨rfl, p6, hc6⟩; have s6 := s5.out.step p6 hc6; have S6 := Lib.hid s6.loads; replace s6 := Lib.hid s6; clear p6 hc6))
          clear cW oc0 oc1 oc2 oc3 oc4 ocl S5 S6
          obtain ⟨cD, cP, cS, hdone⟩ := s6.out.pd.quiet hn'
          obtain ⟨rap, rcp, rc1, rc2, rcl⟩ := s6.out.pd.rcells
          replace cD := Lib.hid cD
          replace cP := Lib.hid cP
          replace cS := Lib.hid cS
          replace hdone := Lib.hid hdone
          clear cR s5 s6
          go_wp2
          go_quiet (first | exact cD.out _ | exact cP.out _ | exact cS.out _)
          go_wp2
          go_roundg (l.length - (i + 1))
          case rel => exact ⟨i + 1, B, d', by omega, by go_num, rfl, hn', hp', hdone.out _⟩
          case measure => omega
        | false =>
          have cF := Lib.hid (fill_any bb (wr.alloc (.cells #[.int .i64 2, .int .i64 nn, .string (mk bb), .bool false, .slice ak ks.length ck] 48)))
          go_wp2_with fail
          refine cF.out.mono ?_
          rintro e wf ⟨rfl, hbf⟩
          replace hS := Lib.hid (hS.out.more hbf)
          obtain ⟨oc0, oc1, oc2, oc3, oc4, ocl⟩ := hS.out.cells
          simp only at oc0 oc1 oc2 oc3 oc4
          clear cF hbf
          have hft := fit_write d nn (fill bb)
          obtain ⟨⟨d', er⟩, hq⟩ : ∃ q, q = dwrite d nn (fill bb) := ⟨_, rfl⟩
          replace hS := Lib.hid (hS.out.more (Below.refl _ _).drew)
          have cW := pWrite nn (fill bb) hq.symm (by omega) hS.out.pd
          rw [← hq] at hft
          have hn' : d'.safe.length = n := by have := hft.1; simp only at this; omega
          have hp' : d'.pend.length ≤ i + 1 := by have := hft.2; simp only at this; omega
          replace cW := Lib.hid cW
          replace hft := Lib.hid hft
          replace hq := Lib.hid hq
          go_wp2
          go_region_held3 (fun x => x.cell? ⟨wr.heap.size, 1, none⟩ = some (.int .i64 nn) ∧ x.cell? ⟨wr.heap.size, 4, none⟩ = some (.slice ak ks.length ck) ∧ wr.heap.size < x.heap.size) (first | assumption | (exact ⟨oc1, oc4, ocl⟩) | (exact S5.out) | (exact S6.out))
            (first | (go_at_call 14; refine cW.out.mono ?_; rintro e w5 ⟨rfl, p5, hc5⟩; have s5 := hS.out.step p5 hc5; have cR := Lib.hid (pRWrite nn (fill bb) hq.out.symm (by omega) s5.pd); have S5 := Lib.hid s5.loads; replace s5 := Lib.hid s5; clear p5 hc5) | (go_at_call 26; refine cR.out.mono ?_; rintro e w6 ⟨rfl, p6, hc6⟩; have s6 := s5.out.step p6 hc6; have S6 := Lib.hid s6.loads; replace s6 := Lib.hid s6; clear p6 hc6))
          clear cW oc0 oc1 oc2 oc3 oc4 ocl S5 S6
          obtain ⟨cD, cP, cS, hdone⟩ := s6.out.pd.quiet hn'
          obtain ⟨rap, rcp, rc1, rc2, rcl⟩ := s6.out.pd.rcells
          replace cD := Lib.hid cD
          replace cP := Lib.hid cP
          replace cS := Lib.hid cS
          replace hdone := Lib.hid hdone
          clear cR s5 s6
          go_wp2
          go_quiet (first | exact cD.out _ | exact cP.out _ | exact cS.out _)
          go_wp2
          go_roundg (l.length - (i + 1))
          case rel => exact ⟨i + 1, B, d', by omega, by go_num, rfl, hn', hp', hdone.out _⟩
          case measure => omega
      by_cases hk3 : kd = 3
      · subst hk3
        have hft := fit_sync d
        obtain ⟨⟨d', er⟩, hq⟩ : ∃ q, q = dsync d := ⟨_, rfl⟩
        have cW := pSync hq.symm hS.out.pd
        rw [← hq] at hft
        have hn' : d'.safe.length = n := by have := hft.1; simp only at this; omega
        have hp' : d'.pend.length ≤ i + 1 := by have := hft.2; simp only at this; omega
        replace cW := Lib.hid cW
        replace hft := Lib.hid hft
        replace hq := Lib.hid hq
        go_wp2_with fail
        refine cW.out.mono ?_
        rintro e w5 ⟨rfl, p5, hc5⟩
        have s5 := hS.out.step p5 hc5
        have cR := Lib.hid (pRSync hq.out.symm s5.pd)
        replace s5 := Lib.hid s5
        clear p5 hc5
        go_wp2_with fail
        refine cR.out.mono ?_
        rintro e w6 ⟨rfl, p6, hc6⟩
        have s6 := Lib.hid (s5.out.step p6 hc6)
        clear cW oc0 oc1 oc2 oc3 oc4 ocl p6 hc6
        obtain ⟨cD, cP, cS, hdone⟩ := s6.out.pd.quiet hn'
        obtain ⟨rap, rcp, rc1, rc2, rcl⟩ := s6.out.pd.rcells
        replace cD := Lib.hid cD
        replace cP := Lib.hid cP
        replace cS := Lib.hid cS
        replace hdone := Lib.hid hdone
        clear cR s5 s6
        go_wp2
        go_quiet (first | exact cD.out _ | exact cP.out _ | exact cS.out _)
        go_wp2
        go_roundg (l.length - (i + 1))
        case rel => exact ⟨i + 1, B, d', by omega, by go_num, rfl, hn', hp', hdone.out _⟩
        case measure => omega
      by_cases hk4 : kd = 4
      · subst hk4
        have hnb : -9223372036854775808 ≤ nn ∧ nn ≤ 9223372036854775807 := by
          unfold Lit.wf at x2
          rw [Bool.and_eq_true, decide_eq_true_eq, decide_eq_true_eq] at x2
          exact x2
        have hft := fit_stop d nn
        obtain ⟨d', hq⟩ : ∃ q, q = dstop d nn := ⟨_, rfl⟩
        have cW := pStop nn hq.symm hnb.2 hnb.1 hS.out.pd
        rw [← hq] at hft
        have hn' : d'.safe.length = n := by have := hft.1; omega
        have hp' : d'.pend.length ≤ i + 1 := by have := hft.2; omega
        replace cW := Lib.hid cW
        replace hft := Lib.hid hft
        go_wp2_with fail
        refine cW.out.mono ?_
        rintro e w5 ⟨rfl, p5, hc5⟩
        have s5 := hS.out.step p5 hc5
        have cR := pRStop nn hq.symm hnb.2 s5.pd
        replace cR := Lib.hid cR
        obtain ⟨f0, f1, f2, f3, f4, fl⟩ := s5.cells
        simp only at f0 f1 f2 f3 f4
        replace s5 := Lib.hid s5
        replace hq := Lib.hid hq
        clear cW oc0 oc1 oc2 oc3 oc4 ocl p5 hc5
        go_wp2_with fail
        refine cR.out.mono ?_
        rintro e w6 ⟨rfl, p6, hc6⟩
        have s6 := Lib.hid (s5.out.step p6 hc6)
        obtain ⟨cD, cP, cS, hdone⟩ := s6.out.pd.quiet hn'
        obtain ⟨rap, rcp, rc1, rc2, rcl⟩ := s6.out.pd.rcells
        replace cD := Lib.hid cD
        replace cP := Lib.hid cP
        replace cS := Lib.hid cS
        replace hdone := Lib.hid hdone
        clear cR s5 s6 p6 hc6 f0 f1 f2 f3 f4 fl
        go_wp2
        go_quiet (first | exact cD.out _ | exact cP.out _ | exact cS.out _)
        go_wp2
        go_roundg (l.length - (i + 1))
        case rel => exact ⟨i + 1, B, d', by omega, by go_num, rfl, hn', hp', hdone.out _⟩
        case measure => omega
      by_cases hk5 : kd = 5
      · subst hk5
        have hft := fit_crash d ks
        obtain ⟨⟨d', er⟩, hq⟩ : ∃ q, q = dcrash d ks := ⟨_, rfl⟩
        have hv1 : BAt (wr.alloc (.cells #[.int .i64 5, .int .i64 nn, .string (mk bb), .bool raw, .slice ak ks.length ck] 48)).drew ak ks := hbk.out.chg (Chg.of_below (hS.out.more (Below.refl _ _).drew).pd.was.1)
        have hak : 0 < ks.length → ∀ b o, ak = some ⟨b, o, none⟩ → b < w.heap.size := fun h0 b o e => by
          obtain ⟨b', o', e', hc⟩ := hbk.out 0 h0
          rw [e] at e'
          cases e'
          exact World.block_lt_of_cell? w _ hc
        replace hS := Lib.hid (hS.out.more (Below.refl _ _).drew)
        have cW := pCrash ak ck ks hq.symm hv1 (by omega) hS.out.pd
        rw [← hq] at hft
        have hn' : d'.safe.length = n := by have := hft.1; simp only at this; omega
        have hp' : d'.pend.length ≤ i + 1 := by have := hft.2; simp only at this; rw [this]; simp
        replace cW := Lib.hid cW
        replace hft := Lib.hid hft
        replace hv1 := Lib.hid hv1
        replace hak := Lib.hid hak
        replace hq := Lib.hid hq
        go_wp2
        go_region_held3 (fun x => x.cell? ⟨wr.heap.size, 1, none⟩ = some (.int .i64 nn) ∧ x.cell? ⟨wr.heap.size, 4, none⟩ = some (.slice ak ks.length ck) ∧ wr.heap.size < x.heap.size) (first | assumption | (exact ⟨oc1, oc4, ocl⟩) | (exact S5.out) | (exact S6.out))
          (first | (go_at_call 17; refine cW.out.mono ?_; rintro e w5 ⟨rfl, p5, hc5⟩; have s5 := hS.out.step p5 hc5; have cR := Lib.hid (pRCrash ak ck ks hq.out.symm (hbk.out.chg (Chg.of_below s5.pd.was.1)) hak.out s5.pd); have S5 := Lib.hid s5.loads; replace s5 := Lib.hid s5; clear p5 hc5) | (go_at_call 29; refine cR.out.mono ?_; rintro e w6 ⟨rfl, p6, hc6⟩; have s6 := s5.out.step p6 hc6; have S6 := Lib.hid s6.loads; replace s6 := Lib.hid s6; clear p6 hc6))
        clear cW oc0 oc1 oc2 oc3 oc4 ocl S5 S6
        obtain ⟨cD, cP, cS, hdone⟩ := s6.out.pd.quiet hn'
        obtain ⟨rap, rcp, rc1, rc2, rcl⟩ := s6.out.pd.rcells
        replace cD := Lib.hid cD
        replace cP := Lib.hid cP
        replace cS := Lib.hid cS
        replace hdone := Lib.hid hdone
        clear cR s5 s6
        go_wp2
        go_quiet (first | exact cD.out _ | exact cP.out _ | exact cS.out _)
        go_wp2
        go_roundg (l.length - (i + 1))
        case rel => exact ⟨i + 1, B, d', by omega, by go_num, rfl, hn', hp', hdone.out _⟩
        case measure => omega
      by_cases hk6 : kd = 6
      · subst hk6
        have cW := pCopy hS.out.pd
        replace cW := Lib.hid cW
        go_wp2_with fail
        refine cW.out.mono ?_
        rintro e w5 ⟨C, rfl, p5, hc5⟩
        obtain ⟨⟨d1, n1⟩, hq1⟩ : ∃ q, q = dcrash d [] := ⟨_, rfl⟩
        have hd1 : d1.pend = [] := by have := (fit_crash d []).2; rw [← hq1] at this; exact this
        have cR := cCrash hq1.symm p5
        replace cR := Lib.hid cR
        replace hq1 := Lib.hid hq1
        clear cW oc0 oc1 oc2 oc3 oc4 ocl p5
        go_wp2_with fail
        refine cR.out.mono ?_
        rintro e w6 ⟨rfl, p6, hc6⟩
        have cF := Lib.hid (fill_any [110, 111, 116, 32, 105, 110, 32, 116, 104, 101, 32, 99, 111, 112, 121] w6)
        clear cR
        go_wp2_with fail
        refine cF.out.mono ?_
        rintro e w7 ⟨rfl, hb7⟩
        have p7 := p6.more hb7
        obtain ⟨s7, hs7⟩ : ∃ s, s = fill [110, 111, 116, 32, 105, 110, 32, 116, 104, 101, 32, 99, 111, 112, 121] := ⟨_, rfl⟩
        rw [← hs7]
        obtain ⟨⟨d2, n2⟩, hq2⟩ : ∃ q, q = dwrite d1 0 s7 := ⟨_, rfl⟩
        have cW := cWrite 0 s7 hq2.symm (by rw [hd1]; simp) p7
        replace cW := Lib.hid cW
        replace hq2 := Lib.hid hq2
        replace hs7 := Lib.hid hs7
        clear cF p6 p7
        go_wp2_with fail
        refine cW.out.mono ?_
        rintro e w8 ⟨rfl, p8, hc8⟩
        obtain ⟨⟨d3, n3⟩, hq3⟩ : ∃ q, q = dsync d2 := ⟨_, rfl⟩
        have cS3 := cSync hq3.symm p8
        replace cS3 := Lib.hid cS3
        replace hq3 := Lib.hid hq3
        clear cW p8
        go_wp2_with fail
        refine cS3.out.mono ?_
        rintro e w9 ⟨rfl, p9, hc9⟩
        have s9 : DpS wr.heap.size ⟨6, nn, bb, raw, ks⟩ (.slice ak ks.length ck) w.heap.size w w9 C d R d := hS.out.step p9.done (((hc5.trans hc6 (fun _ _ h => h)).trans (Chg.of_below hb7) (fun _ _ h => h)).trans (hc8.trans hc9 (fun _ _ h => h)) (fun _ _ h => h))
        obtain ⟨cD, cP, cS, hdone⟩ := s9.pd.quiet hn
        obtain ⟨rap, rcp, rc1, rc2, rcl⟩ := s9.pd.rcells
        replace cD := Lib.hid cD
        replace cP := Lib.hid cP
        replace cS := Lib.hid cS
        replace hdone := Lib.hid hdone
        clear cS3 s9 p9 hc9 hc8 hb7 hc6 hc5
        go_wp2
        go_quiet (first | exact cD.out _ | exact cP.out _ | exact cS.out _)
        go_wp2
        go_roundg (l.length - (i + 1))
        case rel => exact ⟨i + 1, C, d, by omega, by go_num, rfl, hn, (by omega), hdone.out _⟩
        case measure => omega
      have e1 : (kd == 1) = false := by rw [beq_eq_false_iff_ne]; exact hk1
      have e2 : (kd == 2) = false := by rw [beq_eq_false_iff_ne]; exact hk2
      have e3 : (kd == 3) = false := by rw [beq_eq_false_iff_ne]; exact hk3
      have e4 : (kd == 4) = false := by rw [beq_eq_false_iff_ne]; exact hk4
      have e5 : (kd == 5) = false := by rw [beq_eq_false_iff_ne]; exact hk5
      have e6 : (kd == 6) = false := by rw [beq_eq_false_iff_ne]; exact hk6
      obtain ⟨cD, cP, cS, hdone⟩ := hS.out.pd.quiet hn
      obtain ⟨rap, rcp, rc1, rc2, rcl⟩ := hS.out.pd.rcells
      replace cD := Lib.hid cD
      replace cP := Lib.hid cP
      replace cS := Lib.hid cS
      replace hdone := Lib.hid hdone
      skip
      go_wp2
      go_quiet (first | exact cD.out _ | exact cP.out _ | exact cS.out _)
      go_wp2
      go_roundg (l.length - (i + 1))
      case rel => exact ⟨i + 1, B, d, by omega, by go_num, rfl, hn, (by omega), hdone.out _⟩
      case measure => omega
    · obtain rfl : i = l.length := by omega
      obtain ⟨⟨d', er⟩, hq⟩ : ∃ q, q = dcrash d [] := ⟨_, rfl⟩
      have hft := fit_crash d []
      rw [← hq] at hft
      have hn' : d'.safe.length = n := by have := hft.1; simp only at this; omega
      have cW := Lib.hid (pCrash none 0 [] hq.symm (fun j hj => by simp at hj) (by simp) i6)
      replace hft := Lib.hid hft
      clear hI i6 p3
      go_wp2_with fail
      refine cW.out.mono ?_
      rintro e w5 ⟨rfl, p5, hc5⟩
      have cR := Lib.hid (pRCrash none 0 [] hq.symm (fun j hj => by simp at hj) (fun h => by simp at h) p5)
      replace hq := Lib.hid hq
      clear cW p5
      go_wp2_with fail
      refine cR.out.mono ?_
      rintro e w6 ⟨rfl, p6, hc6⟩
      replace p6 := Lib.hid p6
      clear cR hc5 hc6
      go_wp2
      go_loopg [18] n (fun g iv wr => ∃ k : Nat, g + k = n ∧ iv = .int .i64 k ∧ Aside (PD w.heap.size (fun _ => False) w wr B d' R d'))
      case atStart => exact ⟨0, rfl, rfl, p6.out⟩
      case round =>
        obtain ⟨k, hk, rfl, hP⟩ := hrel
        by_cases hkn : k < n
        · obtain ⟨⟨s, er⟩, hq2⟩ : ∃ q, q = dread d' k := ⟨_, rfl⟩
          have cA := Lib.hid (pRead k hq2.symm hP.out)
          have cB := Lib.hid (pRRead k hq2.symm hP.out)
          replace hq2 := Lib.hid hq2
          go_wp2_with fail
          refine cA.out.mono ?_
          rintro e w' ⟨rfl, rfl⟩
          go_wp2_with fail
          refine cB.out.mono ?_
          rintro e w' ⟨rfl, rfl⟩
          clear cA cB
          go_wp2
          go_roundg (n - (k + 1))
          case rel => exact ⟨k + 1, by omega, by go_num, hP.out⟩
          case measure => omega
        · have hw := Lib.hid hP.out.was.1
          clear hP
          go_wp2
          go_ret
          exact ⟨rfl, hw.out⟩
theorem diskPlays_walk (n : Int) (v : Value) (l : List DOp) (w : World) (_w0 : (Lit.int .i64 n).wf = true) (hv : IsOps w v l) : Calls Try.prog 11 #[.int .i64 n, v] w fun e w' => e = .returned (.bool true) ∧ Below w.heap.size w w' := by
  by_cases h : (40 < n ∧ n ≤ 10000) ∨ 100 < l.length
  · exact diskPlays_no n v l w hv h
  · by_cases h1 : n < 1 ∨ 10000 < n
    · exact diskPlays_nil n v l w hv h1 (by omega)
    · obtain ⟨k, rfl⟩ : ∃ k : Nat, n = k := ⟨n.toNat, by omega⟩
      obtain ⟨a, c, rfl, hA⟩ := hv
      exact diskPlays_yes k a c l w hA (by omega) (by omega) (by omega)
end Go.Proofs.Ytnphpnbliigfbaa
