/- A page is written, behind the log. No condition. -/
import Derived.Test.YtlbeaoglkhfdcaaOPool
import Derived.BigQuiet
import Derived.Deep.QuietTactic
import Derived.Deep.RegionHeld3
namespace Go.Proofs.Ytlbeaoglkhfdcaa
open Go.RowKit Go.Maps Go.WideShapes
section
variable {σ : Type} {D : Dv σ} {E : Dev D} {w : World} {F G : Nat → Prop} {pb mb cap : Nat} {bk : Int → Nat} {t : σ} {s : PS}
theorem heap_set {w : World} {b i : Nat} {cs : Array Value} {ty : TypeId} {f : Nat × Nat} (h : w.heap[b]? = some (.cells cs ty f)) (v : Value) : (w.setCell ⟨b, i, none⟩ v).heap[b]? = some (.cells (cs.setIfInBounds i v) ty f) := heap_setCell h v
set_option maxHeartbeats 1600000 in
theorem flush_yes (n : Int) (hn : (Lit.int .i64 n).wf = true) (hk : n ∈ s.ks) (hd : (s.fr n).d = true) (hA : PAt E w F pb mb bk cap s) (hI : E.I F w t) (hl : 2 ≤ E.left t) :
    Calls Try.prog 18 #[.pointer (some ⟨pb, 0, none⟩), .int .i64 n] w fun e w' => e = .returned (.int .i64 (pflush D t s n).2.2) ∧ ∃ F', PAt E w' F' pb mb bk cap (pflush D t s n).2.1 ∧ E.I F' w' (pflush D t s n).1 ∧ Stp (PG F pb mb bk s) w (PG F' pb mb bk (pflush D t s n).2.1) w' := by
  have hmap := hA.map.look hn
  rw [if_pos hk] at hmap
  obtain ⟨c0, c1, c2, c3, c4, c5, hf, hlt⟩ := hA.cells
  obtain ⟨f0, f1, f2, f3, f4, f5, ff, fl⟩ := hA.fcells hk
  rw [hd] at f1
  have hentL := E.entL
  have hentW := E.entW
  clear c0 c1 c2 c5 f2 f4 f5
  have hI0 := E.kept hI (Chg.refl (fun _ => False) w).drew (fun _ _ => id)
  have hA0 := hA.kept (Chg.refl (fun _ => False) w).drew id id (fun _ _ => id)
  have hD0 : Chg (PG F pb mb bk s) w w.drew := (Chg.refl _ w).drew
  have hL := E.callL (s.fr n).last hI0 (by omega)
  replace hL := Lib.hid hL
  replace hA0 := Lib.hid hA0
  replace hA := Lib.hid hA
  replace hI := Lib.hid hI
  replace hI0 := Lib.hid hI0
  replace hD0 := Lib.hid hD0
  obtain ⟨r, hr⟩ : ∃ r, r = D.lg t (s.fr n).last := ⟨_, rfl⟩
  have hl1 : 1 ≤ E.left r.1 := by have := E.leftL t (s.fr n).last; rw [hr]; omega
  rw [← hr] at hL
  by_cases h1 : r.2 = 0
  · obtain ⟨q, hq⟩ : ∃ q, q = D.wr r.1 n (s.fr n).b := ⟨_, rfl⟩
    have hp : pflush D t s n = if q.2 ≠ 0 then (q.1, s, q.2) else (q.1, s.upd n { s.fr n with d := false }, 0) := by
      unfold pflush
      rw [if_pos ⟨hk, hd⟩, ← hr, if_neg (by simpa using h1), ← hq]
    obtain ⟨p, hp0⟩ : ∃ p, p = pflush D t s n := ⟨_, rfl⟩
    rw [← hp0]
    rw [hp] at hp0
    rw [h1] at hL
    replace hr := Lib.hid hr
    clear hp
    replace hp := Lib.hid hp0
    replace hq := Lib.hid hq
    clear hmap c3 c4 f0 f1 f3
    have hmap := hA.out.map.look hn
    rw [if_pos hk] at hmap
    obtain ⟨_, _, _, c3, c4, _⟩ := hA.out.cells
    obtain ⟨_, f1, _, f3, _⟩ := hA.out.fcells hk
    rw [hd] at f1
    go_enter Try.func18, Try.ntmps18
    go_wp2
    go_region_with (refine hL.out.mono ?_; rintro e w1 ⟨rfl, hc⟩)
    all_goals
      obtain ⟨F1, hI1, hs1⟩ := hc
      have hA1 := hA0.out.dev hs1
      have hS1 : Stp (PG F pb mb bk s) w (PG F1 pb mb bk s) w1 := ⟨hD0.out.trans (stp_dev hs1).1 (fun _ _ h => h), (stp_dev hs1).2⟩
      obtain ⟨_, _, g2, _, _, _, _, _⟩ := hA1.cells
      obtain ⟨k0, k1, _, _, _, _, kf, kl⟩ := hA1.fcells hk
      have hI2 := E.kept hI1 (Chg.refl (fun _ => False) w1).drew (fun _ _ => id)
      have hA2 := hA1.kept (Chg.refl (fun _ => False) w1).drew id id (fun _ _ => id)
      have hW := E.callW n (s.fr n).b hI2 hn (by omega)
      rw [← hq.out] at hW
      have hD1 : Chg (PG F1 pb mb bk s) w1 w1.drew := (Chg.refl _ w1).drew
      replace hD1 := Lib.hid hD1
      replace hW := Lib.hid hW
      replace hA1 := Lib.hid hA1
      replace hA2 := Lib.hid hA2
      replace hI1 := Lib.hid hI1
      replace hI2 := Lib.hid hI2
      replace hs1 := Lib.hid hs1
      replace hS1 := Lib.hid hS1
      clear c3 c4 f1 f3 ff hf fl hlt hmap
      by_cases h2 : q.2 = 0
      · rw [h2] at hW
        have hp2 := hp.out
        rw [if_neg (by simpa using h2)] at hp2
        replace hp2 := Lib.hid hp2
        go_wp2
        go_region_with (refine hW.out.mono ?_; rintro e w2 ⟨rfl, hc⟩)
        all_goals
          obtain ⟨F2, hI3, hs2⟩ := hc
          have hA3 := hA2.out.dev hs2
          have hS2 : Stp (PG F pb mb bk s) w (PG F2 pb mb bk s) w2 := hS1.out.trans ⟨hD1.out.trans (stp_dev hs2).1 (fun _ _ h => h), (stp_dev hs2).2⟩
          obtain ⟨_, m1, _, _, _, _, mf, ml⟩ := hA3.fcells hk
          have hc4 : Chg (fun k => k = bk n) w2 (w2.setCell ⟨bk n, 1, none⟩ (.bool false)) := (Chg.refl (fun k => k = bk n) _).setCell (a := ⟨bk n, 1, none⟩) (fun _ => rfl) _
          have hA4 := hA3.frame (f := { s.fr n with d := false }) hk hc4 (by have := heap_set (i := 1) (hA3.frs n hk) (.bool false); simpa [frC] using this)
          have hI4 := E.kept hI3 hc4 (fun k hk2 e => hA3.apart.2.2 n hk (e ▸ hk2))
          have hS3 : Stp (PG F pb mb bk s) w (PG F2 pb mb bk (s.upd n { s.fr n with d := false })) (w2.setCell ⟨bk n, 1, none⟩ (.bool false)) := hS2.trans ⟨hc4.mono (fun k _ e => .inr (.inr (.inl ⟨n, hk, e⟩))), fun k e => .inl e⟩
          replace hA4 := Lib.hid hA4
          replace hI4 := Lib.hid hI4
          replace hS3 := Lib.hid hS3
          clear hA3 hI3 hs2 hS2 hc4 k0 k1 kf kl g2
          go_wp2
          go_ret
          try rw [hp2.out]
          exact ⟨rfl, F2, hA4.out, hI4.out, hS3.out⟩
      · have hp2 := hp.out
        rw [if_pos h2] at hp2
        replace hp2 := Lib.hid hp2
        have hb2 : (q.2 != 0) = true := by simpa using h2
        go_wp2
        go_region_with (refine hW.out.mono ?_; rintro e w2 ⟨rfl, hc⟩)
        all_goals
          obtain ⟨F2, hI3, hs2⟩ := hc
          have hA3 := Lib.hid (hA2.out.dev hs2)
          have hS2 : Stp (PG F pb mb bk s) w (PG F2 pb mb bk s) w2 := hS1.out.trans ⟨hD1.out.trans (stp_dev hs2).1 (fun _ _ h => h), (stp_dev hs2).2⟩
          replace hI3 := Lib.hid hI3
          replace hS2 := Lib.hid hS2
          clear hs2
          go_wp2
          go_ret
          try rw [hp2.out]
          exact ⟨rfl, F2, hA3.out, hI3.out, hS2.out⟩
  · have hp : pflush D t s n = (r.1, s, r.2) := by
      unfold pflush
      rw [if_pos ⟨hk, hd⟩, ← hr, if_pos h1]
    rw [hp]
    have hb1 : (r.2 != 0) = true := by simpa using h1
    replace hr := Lib.hid hr
    replace hp := Lib.hid hp
    go_enter Try.func18, Try.ntmps18
    go_wp2
    go_region_with (refine hL.out.mono ?_; rintro e w1 ⟨rfl, hc⟩)
    all_goals
      obtain ⟨F1, hI1, hs1⟩ := hc
      have hA1 := hA0.out.dev hs1
      have hS1 : Stp (PG F pb mb bk s) w (PG F1 pb mb bk s) w1 := ⟨hD0.out.trans (stp_dev hs1).1 (fun _ _ h => h), (stp_dev hs1).2⟩
      replace hA1 := Lib.hid hA1
      replace hI1 := Lib.hid hI1
      replace hs1 := Lib.hid hs1
      replace hS1 := Lib.hid hS1
      go_wp2
      go_ret
      exact ⟨rfl, F1, hA1.out, hI1.out, hS1.out⟩
theorem flush_raw (n : Int) (hn : (Lit.int .i64 n).wf = true) (hA : PAt E w F pb mb bk cap s) (hI : E.I F w t) (hl : 2 ≤ E.left t) :
    Calls Try.prog 18 #[.pointer (some ⟨pb, 0, none⟩), .int .i64 n] w fun e w' => e = .returned (.int .i64 (pflush D t s n).2.2) ∧ ∃ F', PAt E w' F' pb mb bk cap (pflush D t s n).2.1 ∧ E.I F' w' (pflush D t s n).1 ∧ Stp (PG F pb mb bk s) w (PG F' pb mb bk (pflush D t s n).2.1) w' := by
  by_cases hk : n ∈ s.ks
  · cases hd : (s.fr n).d with
    | true => exact flush_yes n hn hk hd hA hI hl
    | false =>
      have hp : pflush D t s n = (t, s, 0) := by unfold pflush; rw [if_neg (by simp [hd])]
      rw [hp]
      have hmap := hA.map.look hn
      rw [if_pos hk] at hmap
      obtain ⟨_, _, _, _, c4, _⟩ := hA.cells
      obtain ⟨_, f1, _⟩ := hA.fcells hk
      rw [hd] at f1
      replace hA := Lib.hid hA
      replace hI := Lib.hid hI
      clear hp
      go_enter Try.func18, Try.ntmps18
      go_wp2
      go_ret
      exact ⟨rfl, F, hA.out, hI.out, Stp.refl _ _⟩
  · have hp : pflush D t s n = (t, s, 0) := by unfold pflush; rw [if_neg (by simp [hk])]
    rw [hp]
    have hmap := hA.map.look hn
    rw [if_neg hk] at hmap
    obtain ⟨_, _, _, _, c4, _⟩ := hA.cells
    replace hA := Lib.hid hA
    replace hI := Lib.hid hI
    clear hp
    go_enter Try.func18, Try.ntmps18
    go_wp2
    go_ret
    exact ⟨rfl, F, hA.out, hI.out, Stp.refl _ _⟩
theorem flush_any (n : Int) (hn : (Lit.int .i64 n).wf = true) (h : PB E G w pb cap t s) (hl : 2 ≤ E.left t) :
    Calls Try.prog 18 #[.pointer (some ⟨pb, 0, none⟩), .int .i64 n] w fun e w' => e = .returned (.int .i64 (pflush D t s n).2.2) ∧ ∃ G', PB E G' w' pb cap (pflush D t s n).1 (pflush D t s n).2.1 ∧ Stp G w G' w' := by
  obtain ⟨F, mb, bk, hA, hI, hG, _⟩ := h
  refine (flush_raw n hn hA hI hl).mono ?_
  rintro e w' ⟨rfl, F', hA', hI', hS⟩
  exact ⟨rfl, PB.step hG hA' hI' hS⟩
theorem pflush_left (t : σ) (s : PS) (n : Int) : E.left t ≤ E.left (pflush D t s n).1 + 2 := by
  unfold pflush
  have h1 := E.leftL t (s.fr n).last
  have h2 := E.leftW (D.lg t (s.fr n).last).1 n (s.fr n).b
  split
  · split
    · simp only; omega
    · split <;> (simp only; omega)
  · simp only; omega
end
end Go.Proofs.Ytlbeaoglkhfdcaa
