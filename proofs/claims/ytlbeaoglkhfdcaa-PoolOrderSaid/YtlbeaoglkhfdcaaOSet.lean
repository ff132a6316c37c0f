/- A page is changed. No condition. -/
import Derived.Test.YtlbeaoglkhfdcaaOGet
namespace Go.Proofs.Ytlbeaoglkhfdcaa
open Go.RowKit Go.Maps Go.WideShapes
section
variable {σ : Type} {D : Dv σ} {E : Dev D} {w : World} {F G : Nat → Prop} {pb mb cap : Nat} {bk : Int → Nat} {t : σ} {s : PS}
/-- The frame's cells, behind the stores. -/
theorem PAt.setd {n : Int} {b : ByteArray} {lsn : Int} {w' : World} (hA : PAt E w F pb mb bk cap s) (hk : n ∈ s.ks) (hc : Chg (fun k => k = bk n) w w') (hf : w'.heap[bk n]? = some (.cells (frC ((s.fr n).set b lsn)) 65 (0, 0))) :
    PAt E w' F pb mb bk cap (s.upd n ((s.fr n).set b lsn)) ∧ Stp (PG F pb mb bk s) w (PG F pb mb bk (s.upd n ((s.fr n).set b lsn))) w' :=
  ⟨hA.frame hk hc hf, hc.mono (fun k _ e => .inr (.inr (.inl ⟨n, hk, e⟩))), fun k e => .inl e⟩
theorem dev_frame {n : Int} {w' : World} (hA : PAt E w F pb mb bk cap s) (hI : E.I F w t) (hk : n ∈ s.ks) (hc : Chg (fun k => k = bk n) w w') : E.I F w' t :=
  E.kept hI hc fun k hk2 e => hA.apart.2.2 n hk (e ▸ hk2)
theorem set_heap {n : Int} {b : ByteArray} {lsn : Int} (hA : PAt E w F pb mb bk cap s) (hk : n ∈ s.ks) :
    ((s.fr n).d = true → Chg (fun k => k = bk n) w ((w.setCell ⟨bk n, 0, none⟩ (.string b)).setCell ⟨bk n, 3, none⟩ (.int .i64 lsn)) ∧ ((w.setCell ⟨bk n, 0, none⟩ (.string b)).setCell ⟨bk n, 3, none⟩ (.int .i64 lsn)).heap[bk n]? = some (.cells (frC ((s.fr n).set b lsn)) 65 (0, 0))) ∧
    ((s.fr n).d = false → Chg (fun k => k = bk n) w ((((w.setCell ⟨bk n, 1, none⟩ (.bool true)).setCell ⟨bk n, 2, none⟩ (.int .i64 lsn)).setCell ⟨bk n, 0, none⟩ (.string b)).setCell ⟨bk n, 3, none⟩ (.int .i64 lsn)) ∧
      ((((w.setCell ⟨bk n, 1, none⟩ (.bool true)).setCell ⟨bk n, 2, none⟩ (.int .i64 lsn)).setCell ⟨bk n, 0, none⟩ (.string b)).setCell ⟨bk n, 3, none⟩ (.int .i64 lsn)).heap[bk n]? = some (.cells (frC ((s.fr n).set b lsn)) 65 (0, 0))) := by
  have h := hA.frs n hk
  refine ⟨fun hd => ⟨((Chg.refl (fun k => k = bk n) w).setCell (a := ⟨bk n, 0, none⟩) (fun _ => rfl) _).setCell (a := ⟨bk n, 3, none⟩) (fun _ => rfl) _, ?_⟩, fun hd => ⟨((((Chg.refl (fun k => k = bk n) w).setCell (a := ⟨bk n, 1, none⟩) (fun _ => rfl) _).setCell (a := ⟨bk n, 2, none⟩) (fun _ => rfl) _).setCell (a := ⟨bk n, 0, none⟩) (fun _ => rfl) _).setCell (a := ⟨bk n, 3, none⟩) (fun _ => rfl) _, ?_⟩⟩
  · have := heap_set (i := 3) (heap_set (i := 0) h (.string b)) (.int .i64 lsn)
    simpa [frC, Fr.set, hd] using this
  · have := heap_set (i := 3) (heap_set (i := 0) (heap_set (i := 2) (heap_set (i := 1) h (.bool true)) (.int .i64 lsn)) (.string b)) (.int .i64 lsn)
    simpa [frC, Fr.set, hd] using this
theorem set_hit (n : Int) (b : ByteArray) (lsn : Int) (hn : (Lit.int .i64 n).wf = true) (hk : n ∈ s.ks) (hck : s.ck < 1000000) (hA : PAt E w F pb mb bk cap s) (hI : E.I F w t) :
    Calls Try.prog 21 #[.pointer (some ⟨pb, 0, none⟩), .int .i64 n, .string b, .int .i64 lsn] w fun e w' => e = .returned (.int .i64 0) ∧ PAt E w' F pb mb bk cap (s.set n b lsn) ∧ E.I F w' t ∧ Stp (PG F pb mb bk s) w (PG F pb mb bk (s.set n b lsn)) w' := by
  have hmap := hA.map.look hn
  rw [if_pos hk] at hmap
  obtain ⟨_, _, _, _, c4, _, _, _⟩ := hA.cells
  have hc := acc_raw n hk hck hA
  replace hc := Lib.hid hc
  replace hA := Lib.hid hA
  replace hI := Lib.hid hI
  cases hd : ((s.acc n).fr n).d with
  | true =>
    go_enter Try.func21, Try.ntmps21
    go_wp2_with fail
    refine hc.out.mono ?_
    rintro e w1 ⟨rfl, hA1, hc1⟩
    have hk1 : n ∈ (s.acc n).ks := hk
    have hI1 := Lib.hid (dev_acc hA.out hI.out hk hc1)
    have hS1 : Stp (PG F pb mb bk s) w (PG F pb mb bk (s.acc n)) w1 := stp_acc hk hc1
    obtain ⟨f0, f1, f2, f3, _, _, ff, fl⟩ := hA1.fcells hk1
    rw [hd] at f1
    obtain ⟨hcw, hhw⟩ := (set_heap (b := b) (lsn := lsn) hA1 hk1).1 hd
    have hq := hA1.setd hk1 hcw hhw
    have hI2 := Lib.hid (dev_frame hA1 hI1.out hk1 hcw)
    replace hA1 := Lib.hid hA1
    replace hS1 := Lib.hid hS1
    replace hq := Lib.hid hq
    clear hc1 c4 hmap hcw hhw hd
    go_wp2
    go_ret
    exact ⟨rfl, hq.out.1, hI2.out, hS1.out.trans hq.out.2⟩
  | false =>
    go_enter Try.func21, Try.ntmps21
    go_wp2_with fail
    refine hc.out.mono ?_
    rintro e w1 ⟨rfl, hA1, hc1⟩
    have hk1 : n ∈ (s.acc n).ks := hk
    have hI1 := Lib.hid (dev_acc hA.out hI.out hk hc1)
    have hS1 : Stp (PG F pb mb bk s) w (PG F pb mb bk (s.acc n)) w1 := stp_acc hk hc1
    obtain ⟨f0, f1, f2, f3, _, _, ff, fl⟩ := hA1.fcells hk1
    rw [hd] at f1
    obtain ⟨hcw, hhw⟩ := (set_heap (b := b) (lsn := lsn) hA1 hk1).2 hd
    have hq := hA1.setd hk1 hcw hhw
    have hI2 := Lib.hid (dev_frame hA1 hI1.out hk1 hcw)
    replace hA1 := Lib.hid hA1
    replace hS1 := Lib.hid hS1
    replace hq := Lib.hid hq
    clear hc1 c4 hmap hcw hhw hd
    go_wp2
    go_ret
    exact ⟨rfl, hq.out.1, hI2.out, hS1.out.trans hq.out.2⟩
set_option maxHeartbeats 1600000 in
theorem set_miss (n : Int) (b : ByteArray) (lsn : Int) (hn : (Lit.int .i64 n).wf = true) (hk : n ∉ s.ks) (hck : s.ck < 1000000) (hfew : s.ks.length < 1000000) (hcap : 1 ≤ cap) (hl : 2 ≤ E.left t) (hA : PAt E w F pb mb bk cap s) (hI : E.I F w t) :
    Calls Try.prog 21 #[.pointer (some ⟨pb, 0, none⟩), .int .i64 n, .string b, .int .i64 lsn] w fun e w' => e = .returned (.int .i64 (pset D cap t s n b lsn).2.2) ∧ ∃ F' bk', PAt E w' F' pb mb bk' cap (pset D cap t s n b lsn).2.1 ∧ E.I F' w' (pset D cap t s n b lsn).1 ∧ Stp (PG F pb mb bk s) w (PG F' pb mb bk' (pset D cap t s n b lsn).2.1) w' := by
  have hmap := hA.map.look hn
  rw [if_neg hk] at hmap
  obtain ⟨_, c1, _, _, c4, _, _, _⟩ := hA.cells
  obtain ⟨m, hm⟩ : ∃ m, m = proom D cap t s := ⟨_, rfl⟩
  have hmk := proom_ks D cap t s
  rw [← hm] at hmk
  have hq : pset D cap t s n b lsn = if m.2.2 ≠ 0 then m else (m.1, (m.2.1.add n ⟨ByteArray.empty, false, 0, 0, 0, 0⟩).set n b lsn, 0) := by
    unfold pset
    rw [if_neg hk, ← hm]
  obtain ⟨q, hq0⟩ : ∃ q, q = pset D cap t s n b lsn := ⟨_, rfl⟩
  rw [← hq0]
  rw [hq] at hq0
  have hRm := room_raw hA hI hcap hl
  rw [← hm] at hRm
  replace hRm := Lib.hid hRm
  replace hq0 := Lib.hid hq0
  replace hA := Lib.hid hA
  replace hI := Lib.hid hI
  replace hm := Lib.hid hm
  replace hmk := Lib.hid hmk
  replace hk := Lib.hid hk
  clear hq
  go_enter Try.func21, Try.ntmps21
  go_wp2_with fail
  refine hRm.out.mono ?_
  rintro e w2 ⟨rfl, F2, hA2, hI2, hS3⟩
  replace hS3 := Lib.hid hS3
  clear c1 c4 hmap
  by_cases h2 : m.2.2 = 0
  · rw [h2]
    have hq2 := hq0.out
    rw [if_neg (by simpa using h2)] at hq2
    replace hq2 := Lib.hid hq2
    have hkm : n ∉ m.2.1.ks := fun e => hk.out (hmk.out.1 n e)
    have hAa := hA2.more ((Below.refl _ w2).alloc (Nat.le_refl _) (.cells (frC ⟨ByteArray.empty, false, 0, 0, 0, 0⟩) 65 (0, 0)))
    obtain ⟨_, _, _, _, c4, _, _, _⟩ := hAa.cells
    simp only [frC, show ByteArray.empty = (⟨#[]⟩ : ByteArray) from rfl] at c4
    have hM := hAa.map
    have hRi := hA2.ok.rise
    have hlm : m.2.1.ks.length < 1000000 := by have := hmk.out.2.2; omega
    have hAc : ∀ w3, PMap w3 mb (insK n m.2.1.ks) (fun x => if x = n then w2.heap.size else bk x) → (w2.alloc (.cells (frC ⟨ByteArray.empty, false, 0, 0, 0, 0⟩) 65 (0, 0))).grownBy w3 (some mb) →
        Calls Try.prog 33 #[.pointer (some ⟨pb, 0, none⟩), .pointer (some ⟨w2.heap.size, 0, none⟩)] w3 fun e w' => e = .returned (.tuple #[]) ∧ (w'.cell? ⟨w2.heap.size, 0, none⟩ = some (.string ByteArray.empty) ∧ w'.cell? ⟨w2.heap.size, 1, none⟩ = some (.bool false) ∧ w'.cell? ⟨w2.heap.size, 2, none⟩ = some (.int .i64 0) ∧ w'.cell? ⟨w2.heap.size, 3, none⟩ = some (.int .i64 0) ∧ (∀ i, w'.frozen? ⟨w2.heap.size, i, none⟩ = false) ∧ w2.heap.size < w'.heap.size) ∧
          Hid (PAt E ((((w'.setCell ⟨w2.heap.size, 1, none⟩ (.bool true)).setCell ⟨w2.heap.size, 2, none⟩ (.int .i64 lsn)).setCell ⟨w2.heap.size, 0, none⟩ (.string b)).setCell ⟨w2.heap.size, 3, none⟩ (.int .i64 lsn)) F2 pb mb (fun x => if x = n then w2.heap.size else bk x) cap ((m.2.1.add n ⟨ByteArray.empty, false, 0, 0, 0, 0⟩).set n b lsn) ∧
            E.I F2 ((((w'.setCell ⟨w2.heap.size, 1, none⟩ (.bool true)).setCell ⟨w2.heap.size, 2, none⟩ (.int .i64 lsn)).setCell ⟨w2.heap.size, 0, none⟩ (.string b)).setCell ⟨w2.heap.size, 3, none⟩ (.int .i64 lsn)) m.1 ∧
            Stp (PG F2 pb mb bk m.2.1) w2 (PG F2 pb mb (fun x => if x = n then w2.heap.size else bk x) ((m.2.1.add n ⟨ByteArray.empty, false, 0, 0, 0, 0⟩).set n b lsn)) ((((w'.setCell ⟨w2.heap.size, 1, none⟩ (.bool true)).setCell ⟨w2.heap.size, 2, none⟩ (.int .i64 lsn)).setCell ⟨w2.heap.size, 0, none⟩ (.string b)).setCell ⟨w2.heap.size, 3, none⟩ (.int .i64 lsn))) := by
      intro w3 hM3 hg3
      have hA3 := hA2.added (E.lt hI2) hn hkm hlm hM3 hg3
      have hkn : n ∈ (m.2.1.add n ⟨ByteArray.empty, false, 0, 0, 0, 0⟩).ks := mem_insK.2 (.inl rfl)
      have hcc := acc_raw n hkn (by rw [show (m.2.1.add n ⟨ByteArray.empty, false, 0, 0, 0, 0⟩).ck = m.2.1.ck from rfl, hmk.out.2.1]; exact hck) hA3
      have hI3 : E.I F2 w3 m.1 := E.kept hI2 (Chg.grown (S := fun k => k = mb) ((Chg.refl (fun k => k = mb) w2).alloc _) hg3 (fun j _ e => by cases e; rfl)) (fun k hk2 e => hA2.apart.2.1 (e ▸ hk2))
      simp only [if_true] at hcc
      refine hcc.mono ?_
      rintro e w4 ⟨rfl, hA4, hc4⟩
      have hkn2 : n ∈ ((m.2.1.add n ⟨ByteArray.empty, false, 0, 0, 0, 0⟩).acc n).ks := hkn
      have hI4 : E.I F2 w4 m.1 := by
        refine E.kept hI3 hc4 fun k hk2 e => ?_
        rcases e with e | e
        · exact hA2.apart.1 (e ▸ hk2)
        · have := E.lt hI2 k hk2
          omega
      have hd0 : (((m.2.1.add n ⟨ByteArray.empty, false, 0, 0, 0, 0⟩).acc n).fr n).d = false := by simp [PS.acc, PS.add, PS.upd]
      have hS4 := stp_add (F := F2) (bk := bk) (s := m.2.1) (n := n) hg3 hc4
      have hc5 := hA4.fcells hkn2
      obtain ⟨hcw, hhw⟩ := (set_heap (b := b) (lsn := lsn) hA4 hkn2).2 hd0
      have hq := hA4.setd hkn2 hcw hhw
      have hI5 := dev_frame hA4 hI4 hkn2 hcw
      simp only [if_true] at hc5 hq hI5
      refine ⟨rfl, ⟨?_, ?_, ?_, ?_, hc5.2.2.2.2.2.2.1, hc5.2.2.2.2.2.2.2⟩, Lib.hid ⟨hq.1, hI5, hS4.trans hq.2⟩⟩
      · rw [hc5.1]; simp [PS.acc, PS.add, PS.upd]
      · rw [hc5.2.1]; simp [PS.acc, PS.add, PS.upd]
      · rw [hc5.2.2.1]; simp [PS.acc, PS.add, PS.upd]
      · rw [hc5.2.2.2.1]; simp [PS.acc, PS.add, PS.upd]
    replace hAc := Lib.hid hAc
    replace hA2 := Lib.hid hA2
    replace hI2 := Lib.hid hI2
    replace hM := Lib.hid hM
    replace hRi := Lib.hid hRi
    replace hAa := Lib.hid hAa
    go_wp2_with (first | (at_mapUpdate; refine wpList_pmap_store rfl (.tmp 31) (.tmp 32) (.tmp 33) rfl rfl hM.out hRi.out (by omega) n rfl hn _ rfl ?_; intro w3 hM3 hg3; have hcall := Lib.hid (hAc.out w3 hM3 hg3); clear hM3 hg3) | (go_at_call 33; refine hcall.out.mono ?_; rintro e w4 ⟨rfl, ⟨d0, d1, d2, d3, df, dl⟩, hA4⟩))
    go_ret
    rw [hq2.out]
    exact ⟨rfl, F2, _, hA4.out.1, hA4.out.2.1, hS3.out.trans hA4.out.2.2⟩
  · have hq2 := hq0.out
    rw [if_pos h2] at hq2
    replace hq2 := Lib.hid hq2
    have hb2 : (m.2.2 != 0) = true := by simpa using h2
    replace hA2 := Lib.hid hA2
    replace hI2 := Lib.hid hI2
    go_wp2
    go_ret
    rw [hq2.out]
    exact ⟨rfl, F2, bk, hA2.out, hI2.out, hS3.out⟩
end
end Go.Proofs.Ytlbeaoglkhfdcaa
