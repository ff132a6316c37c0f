/- A page is asked for, is changed. No condition. -/
import Derived.Test.YtlbeaoglkhfdcaaORoom
import Derived.Test.YtlbeaoglkhfdcaaOAcc
namespace Go.Proofs.Ytlbeaoglkhfdcaa
open Go.RowKit Go.Maps Go.WideShapes
section
variable {σ : Type} {D : Dv σ} {E : Dev D} {w : World} {F G : Nat → Prop} {pb mb cap : Nat} {bk : Int → Nat} {t : σ} {s : PS}
theorem proom_ks (D : Dv σ) (cap : Nat) (t : σ) (s : PS) : (∀ x ∈ (proom D cap t s).2.1.ks, x ∈ s.ks) ∧ (proom D cap t s).2.1.ck = s.ck ∧ (proom D cap t s).2.1.ks.length ≤ s.ks.length := by
  have h := pflush_ks D t s s.vic
  unfold proom
  split
  · exact ⟨fun _ h => h, rfl, Nat.le_refl _⟩
  · split
    · rw [h.1, h.2]; exact ⟨fun _ h => h, rfl, Nat.le_refl _⟩
    · refine ⟨fun x hx => ?_, h.2, ?_⟩
      · have := (List.mem_filter.1 hx).1
        rw [h.1] at this
        exact this
      · refine Nat.le_trans (List.length_filter_le _ _) ?_
        rw [h.1]
        exact Nat.le_refl _
/-- Behind an access: what is owned is owned still. -/
theorem stp_acc {n : Int} {w' : World} (hk : n ∈ s.ks) (hc : Chg (fun k => k = pb ∨ k = bk n) w w') : Stp (PG F pb mb bk s) w (PG F pb mb bk (s.acc n)) w' :=
  ⟨hc.mono fun k _ e => by
    rcases e with e | e
    · exact .inl e
    · exact .inr (.inr (.inl ⟨n, hk, e⟩)), fun k e => .inl e⟩
theorem dev_acc {n : Int} {w' : World} (hA : PAt E w F pb mb bk cap s) (hI : E.I F w t) (hk : n ∈ s.ks) (hc : Chg (fun k => k = pb ∨ k = bk n) w w') : E.I F w' t :=
  E.kept hI hc fun k hk2 e => by
    rcases e with e | e
    · exact hA.apart.1 (e ▸ hk2)
    · exact hA.apart.2.2 n hk (e ▸ hk2)
/-- Behind the making of a frame, its store into the map, its first access. -/
theorem stp_add {n : Int} {f : Fr} {w3 w4 : World} (hg : (w.alloc (.cells (frC f) 65 (0, 0))).grownBy w3 (some mb)) (hc : Chg (fun k => k = pb ∨ k = w.heap.size) w3 w4) :
    Stp (PG F pb mb bk s) w (PG F pb mb (fun x => if x = n then w.heap.size else bk x) ((s.add n f).acc n)) w4 := by
  have hc1 : Chg (fun k => k = pb ∨ k = mb) w w3 := Chg.grown ((Chg.refl (fun k => k = pb ∨ k = mb) w).alloc _) hg (fun j _ e => by cases e; exact .inr rfl)
  refine ⟨(hc1.trans hc (fun k hk e => e.elim .inl (fun e2 => absurd hk (by omega)))).mono (fun k _ e => e.elim .inl (fun e2 => .inr (.inl e2))), fun k e => ?_⟩
  rcases e with e | e | ⟨x, hx, e⟩ | e
  · exact .inl (.inl e)
  · exact .inl (.inr (.inl e))
  · by_cases hxn : x = n
    · simp only [if_pos hxn] at e
      exact .inr (by omega)
    · simp only [if_neg hxn] at e
      rcases mem_insK.1 hx with e2 | hx
      · exact absurd e2 hxn
      · exact .inl (.inr (.inr (.inl ⟨x, hx, e⟩)))
  · exact .inl (.inr (.inr (.inr e)))
theorem get_hit (n : Int) (hn : (Lit.int .i64 n).wf = true) (hk : n ∈ s.ks) (hck : s.ck < 1000000) (hA : PAt E w F pb mb bk cap s) (hI : E.I F w t) :
    Calls Try.prog 13 #[.pointer (some ⟨pb, 0, none⟩), .int .i64 n] w fun e w' => e = .returned (.tuple #[.string (s.fr n).b, .int .i64 0]) ∧ PAt E w' F pb mb bk cap (s.acc n) ∧ E.I F w' t ∧ Stp (PG F pb mb bk s) w (PG F pb mb bk (s.acc n)) w' := by
  have hmap := hA.map.look hn
  rw [if_pos hk] at hmap
  obtain ⟨_, _, _, _, c4, _, _, _⟩ := hA.cells
  have hc := acc_raw n hk hck hA
  replace hc := Lib.hid hc
  replace hA := Lib.hid hA
  replace hI := Lib.hid hI
  go_enter Try.func13, Try.ntmps13
  go_wp2_with fail
  refine hc.out.mono ?_
  rintro e w1 ⟨rfl, hA1, hc1⟩
  have hk1 : n ∈ (s.acc n).ks := hk
  obtain ⟨f0, _⟩ := hA1.fcells hk1
  have e1 : ((s.acc n).fr n).b = (s.fr n).b := by simp [PS.acc, PS.upd]
  rw [e1] at f0
  replace hA1 := Lib.hid hA1
  have hI1 := Lib.hid (dev_acc hA.out hI.out hk hc1)
  have hS1 : Stp (PG F pb mb bk s) w (PG F pb mb bk (s.acc n)) w1 := stp_acc hk hc1
  replace hS1 := Lib.hid hS1
  clear hc1 e1 c4 hmap
  go_wp2
  go_ret2
  exact ⟨rfl, hA1.out, hI1.out, hS1.out⟩
set_option maxHeartbeats 1600000 in
theorem get_miss (n : Int) (hn : (Lit.int .i64 n).wf = true) (hk : n ∉ s.ks) (hck : s.ck < 1000000) (hfew : s.ks.length < 1000000) (hcap : 1 ≤ cap) (hl : 3 ≤ E.left t) (hA : PAt E w F pb mb bk cap s) (hI : E.I F w t) :
    Calls Try.prog 13 #[.pointer (some ⟨pb, 0, none⟩), .int .i64 n] w fun e w' => e = .returned (.tuple #[.string (pget D cap t s n).2.2.1, .int .i64 (pget D cap t s n).2.2.2]) ∧ ∃ F' bk', PAt E w' F' pb mb bk' cap (pget D cap t s n).2.1 ∧ E.I F' w' (pget D cap t s n).1 ∧ Stp (PG F pb mb bk s) w (PG F' pb mb bk' (pget D cap t s n).2.1) w' := by
  have hmap := hA.map.look hn
  rw [if_neg hk] at hmap
  obtain ⟨_, c1, _, _, c4, _, _, _⟩ := hA.cells
  have hent := E.entR
  have hR := E.callR n hI hn (by omega)
  obtain ⟨r, hr⟩ : ∃ r, r = D.rd t n := ⟨_, rfl⟩
  have hl1 : 2 ≤ E.left r.1 := by have := E.leftR t n; rw [hr]; omega
  rw [← hr] at hR
  obtain ⟨m, hm⟩ : ∃ m, m = proom D cap r.1 s := ⟨_, rfl⟩
  have hmk := proom_ks D cap r.1 s
  rw [← hm] at hmk
  have hq : pget D cap t s n = if r.2.2 ≠ 0 then (r.1, s, ByteArray.empty, r.2.2) else if m.2.2 ≠ 0 then (m.1, m.2.1, ByteArray.empty, m.2.2) else (m.1, (m.2.1.add n ⟨r.2.1, false, 0, 0, 0, 0⟩).acc n, r.2.1, 0) := by
    unfold pget
    rw [if_neg hk, ← hr, ← hm]
  obtain ⟨q, hq0⟩ : ∃ q, q = pget D cap t s n := ⟨_, rfl⟩
  rw [← hq0]
  rw [hq] at hq0
  replace hq0 := Lib.hid hq0
  replace hA := Lib.hid hA
  replace hI := Lib.hid hI
  replace hR := Lib.hid hR
  replace hr := Lib.hid hr
  replace hm := Lib.hid hm
  replace hmk := Lib.hid hmk
  replace hk := Lib.hid hk
  clear hq
  go_enter Try.func13, Try.ntmps13
  go_wp2_with fail
  refine hR.out.mono ?_
  rintro e w1 ⟨rfl, F1, hI1, hs1⟩
  have hA1 := hA.out.dev hs1
  have hS1 : Stp (PG F pb mb bk s) w (PG F1 pb mb bk s) w1 := stp_dev hs1
  have hRm := room_raw hA1 hI1 hcap hl1
  rw [← hm.out] at hRm
  replace hRm := Lib.hid hRm
  replace hA1 := Lib.hid hA1
  replace hI1 := Lib.hid hI1
  replace hS1 := Lib.hid hS1
  clear hs1 c1 c4 hmap
  by_cases h1 : r.2.2 = 0
  · rw [h1]
    have hq1 := hq0.out
    rw [if_neg (by simpa using h1)] at hq1
    replace hq1 := Lib.hid hq1
    go_wp2_with fail
    refine hRm.out.mono ?_
    rintro e w2 ⟨rfl, F2, hA2, hI2, hS2⟩
    have hS3 : Stp (PG F pb mb bk s) w (PG F2 pb mb bk m.2.1) w2 := hS1.out.trans hS2
    replace hS3 := Lib.hid hS3
    clear hS2
    by_cases h2 : m.2.2 = 0
    · rw [h2]
      have hq2 := hq1.out
      rw [if_neg (by simpa using h2)] at hq2
      replace hq2 := Lib.hid hq2
      have hkm : n ∉ m.2.1.ks := fun e => hk.out (hmk.out.1 n e)
      have hAa := hA2.more ((Below.refl _ w2).alloc (Nat.le_refl _) (.cells (frC ⟨r.2.1, false, 0, 0, 0, 0⟩) 65 (0, 0)))
      obtain ⟨_, _, _, _, c4, _, _, _⟩ := hAa.cells
      simp only [frC] at c4
      have hM := hAa.map
      have hRi := hA2.ok.rise
      have hlm : m.2.1.ks.length < 1000000 := by have := hmk.out.2.2; omega
      have hAc : ∀ w3, PMap w3 mb (insK n m.2.1.ks) (fun x => if x = n then w2.heap.size else bk x) → (w2.alloc (.cells (frC ⟨r.2.1, false, 0, 0, 0, 0⟩) 65 (0, 0))).grownBy w3 (some mb) →
          Calls Try.prog 33 #[.pointer (some ⟨pb, 0, none⟩), .pointer (some ⟨w2.heap.size, 0, none⟩)] w3 fun e w' => e = .returned (.tuple #[]) ∧ ∃ f0, w'.cell? ⟨w2.heap.size, 0, none⟩ = some (.string r.2.1) ∧ f0 = w2.heap.size ∧
            PAt E w' F2 pb mb (fun x => if x = n then w2.heap.size else bk x) cap ((m.2.1.add n ⟨r.2.1, false, 0, 0, 0, 0⟩).acc n) ∧ E.I F2 w' m.1 ∧ Stp (PG F2 pb mb bk m.2.1) w2 (PG F2 pb mb (fun x => if x = n then w2.heap.size else bk x) ((m.2.1.add n ⟨r.2.1, false, 0, 0, 0, 0⟩).acc n)) w' := by
        intro w3 hM3 hg3
        have hA3 := hA2.added (E.lt hI2) hn hkm hlm hM3 hg3
        have hkn : n ∈ (m.2.1.add n ⟨r.2.1, false, 0, 0, 0, 0⟩).ks := mem_insK.2 (.inl rfl)
        have hcc := acc_raw n hkn (by rw [show (m.2.1.add n ⟨r.2.1, false, 0, 0, 0, 0⟩).ck = m.2.1.ck from rfl, hmk.out.2.1]; exact hck) hA3
        have hI3 : E.I F2 w3 m.1 := E.kept hI2 (Chg.grown (S := fun k => k = mb) ((Chg.refl (fun k => k = mb) w2).alloc _) hg3 (fun j _ e => by cases e; rfl)) (fun k hk2 e => hA2.apart.2.1 (e ▸ hk2))
        simp only [if_true] at hcc
        refine hcc.mono ?_
        rintro e w4 ⟨rfl, hA4, hc4⟩
        have hc5 := hA4.fcells hkn
        simp only [if_true] at hc5
        refine ⟨rfl, w2.heap.size, ?_, rfl, hA4, ?_, stp_add hg3 hc4⟩
        · rw [hc5.1]
          simp [PS.acc, PS.add, PS.upd]
        · refine E.kept hI3 hc4 fun k hk2 e => ?_
          rcases e with e | e
          · exact hA2.apart.1 (e ▸ hk2)
          · have := E.lt hI2 k hk2
            omega
      replace hAc := Lib.hid hAc
      replace hA2 := Lib.hid hA2
      replace hI2 := Lib.hid hI2
      replace hM := Lib.hid hM
      replace hRi := Lib.hid hRi
      replace hAa := Lib.hid hAa
      go_wp2_with (first | (at_mapUpdate; refine wpList_pmap_store rfl (.tmp 43) (.tmp 44) (.tmp 45) rfl rfl hM.out hRi.out (by omega) n rfl hn _ rfl ?_; intro w3 hM3 hg3; have hcall := Lib.hid (hAc.out w3 hM3 hg3); clear hM3 hg3) | (go_at_call 33; refine hcall.out.mono ?_; rintro e w4 ⟨rfl, f0, hc0, hz0, hA4, hI4, hS4⟩; replace hz0 := Lib.hid hz0; replace hA4 := Lib.hid hA4; replace hI4 := Lib.hid hI4; have hS5 := Lib.hid (hS3.out.trans hS4); clear hS4))
      go_ret2
      rw [hq2.out]
      exact ⟨rfl, F2, _, hA4.out, hI4.out, hS5.out⟩
    · have hq2 := hq1.out
      rw [if_pos h2] at hq2
      replace hq2 := Lib.hid hq2
      have hb2 : (m.2.2 != 0) = true := by simpa using h2
      replace hA2 := Lib.hid hA2
      replace hI2 := Lib.hid hI2
      go_wp2
      go_ret2
      rw [hq2.out]
      exact ⟨rfl, F2, bk, hA2.out, hI2.out, hS3.out⟩
  · have hq1 := hq0.out
    rw [if_pos h1] at hq1
    replace hq1 := Lib.hid hq1
    have hb1 : (r.2.2 != 0) = true := by simpa using h1
    go_wp2
    go_ret2
    rw [hq1.out]
    exact ⟨rfl, F1, bk, hA1.out, hI1.out, hS1.out⟩
end
end Go.Proofs.Ytlbeaoglkhfdcaa
