/- Room is made for a page. No condition. -/
import Derived.Test.YtlbeaoglkhfdcaaOVic
namespace Go.Proofs.Ytlbeaoglkhfdcaa
open Go.RowKit Go.Maps Go.WideShapes
section
variable {σ : Type} {D : Dv σ} {E : Dev D} {w : World} {F G : Nat → Prop} {pb mb cap : Nat} {bk : Int → Nat} {t : σ} {s : PS}
theorem PAt.dropped {w' : World} {n : Int} (h : PAt E w F pb mb bk cap s) (hM : PMap w' mb (s.ks.filter fun x => decide (x ≠ n)) bk) (hg : w.grownBy w' (some mb)) : PAt E w' F pb mb bk cap (s.del n) := by
  have hc : Chg (fun k => k = mb) w w' := Chg.grown (S := fun k => k = mb) (Chg.refl _ _) hg (fun j _ e => by cases e; rfl)
  have hm : ∀ x ∈ (s.del n).ks, x ∈ s.ks := fun x hx => (List.mem_filter.1 hx).1
  exact ⟨h.ok.del n, h.few, hc.heap h.cell h.pb_mb, hM, fun x hx => hc.heap (h.frs x (hm x hx)) (h.bk_mb (hm x hx)), fun x hx y hy => h.inj x (hm x hx) y (hm y hy), ⟨h.apart.1, h.apart.2.1, fun x hx => h.apart.2.2 x (hm x hx)⟩⟩
theorem PAt.added {w' : World} {n : Int} {f : Fr} (h : PAt E w F pb mb bk cap s) (hFl : ∀ k, F k → k < w.heap.size) (hw : (Lit.int .i64 n).wf = true) (hn : n ∉ s.ks) (hl : s.ks.length < 1000000) (hM : PMap w' mb (insK n s.ks) (fun x => if x = n then w.heap.size else bk x)) (hg : (w.alloc (.cells (frC f) 65 (0, 0))).grownBy w' (some mb)) :
    PAt E w' F pb mb (fun x => if x = n then w.heap.size else bk x) cap (s.add n f) := by
  have hmb := h.lt.2.1
  have hc1 : Chg (fun k => k = mb) w (w.alloc (.cells (frC f) 65 (0, 0))) := (Chg.refl (fun k => k = mb) w).alloc _
  have hc : Chg (fun k => k = mb) w w' := Chg.grown hc1 hg (fun j _ e => by cases e; rfl)
  have hnew : w'.heap[w.heap.size]? = some (.cells (frC f) 65 (0, 0)) := (hg.block _ (by simp) (by simp; omega)).trans (heap_alloc_new w _)
  refine ⟨⟨rise_insK h.ok.rise, fun x hx => ?_, by rw [show (s.add n f).ks = insK n s.ks from rfl, len_insK hn]; omega, h.ok.ck⟩, h.few, hc.heap h.cell h.pb_mb, hM, fun x hx => ?_, fun x hx y hy => ?_, ⟨h.apart.1, h.apart.2.1, fun x hx => ?_⟩⟩
  · rcases mem_insK.1 hx with rfl | hx
    · exact hw
    · exact h.ok.wf x hx
  · by_cases e : x = n
    · subst e
      simp only [if_true]
      rw [hnew]
      simp [PS.add, PS.upd]
    · rcases mem_insK.1 hx with e2 | hx
      · exact absurd e2 e
      · simp only [if_neg e]
        rw [hc.heap (h.frs x hx) (h.bk_mb hx)]
        simp [PS.add, PS.upd, e]
  · intro e
    by_cases e1 : x = n
    · by_cases e2 : y = n
      · rw [e1, e2]
      · rcases mem_insK.1 hy with e3 | hy
        · exact absurd e3 e2
        · rw [if_pos e1, if_neg e2] at e
          have := h.lt.2.2 y hy
          omega
    · rcases mem_insK.1 hx with e3 | hx
      · exact absurd e3 e1
      · by_cases e2 : y = n
        · rw [if_neg e1, if_pos e2] at e
          have := h.lt.2.2 x hx
          omega
        · rcases mem_insK.1 hy with e3 | hy
          · exact absurd e3 e2
          · rw [if_neg e1, if_neg e2] at e
            exact h.inj x hx y hy e
  · by_cases e : x = n
    · simp only [if_pos e]
      intro hk
      have := hFl _ hk
      omega
    · rcases mem_insK.1 hx with e2 | hx
      · exact absurd e2 e
      · simp only [if_neg e]
        exact h.apart.2.2 x hx
set_option maxHeartbeats 1600000 in
theorem room_raw (hA : PAt E w F pb mb bk cap s) (hI : E.I F w t) (hcap : 1 ≤ cap) (hl : 2 ≤ E.left t) :
    Calls Try.prog 32 #[.pointer (some ⟨pb, 0, none⟩)] w fun e w' => e = .returned (.int .i64 (proom D cap t s).2.2) ∧ ∃ F', PAt E w' F' pb mb bk cap (proom D cap t s).2.1 ∧ E.I F' w' (proom D cap t s).1 ∧ Stp (PG F pb mb bk s) w (PG F' pb mb bk (proom D cap t s).2.1) w' := by
  have hAd := hA.kept (Chg.refl (fun _ => False) w).drew id id (fun _ _ => id)
  have hId := E.kept hI (Chg.refl (fun _ => False) w).drew (fun _ _ => id)
  have hl1 := hA.map.len
  have hl2 := hAd.map.len
  obtain ⟨c0, _, _, _, c4, _, _, _⟩ := hA.cells
  have hD0 : Chg (PG F pb mb bk s) w w.drew := (Chg.refl _ w).drew
  by_cases h : s.ks.length < cap
  · have hp : proom D cap t s = (t, s, 0) := by unfold proom; rw [if_pos h]
    rw [hp]
    have hi : ((s.ks.length : Nat) : Int) < (cap : Int) := by omega
    replace hA := Lib.hid hA
    replace hI := Lib.hid hI
    replace hAd := Lib.hid hAd
    replace hId := Lib.hid hId
    replace hD0 := Lib.hid hD0
    clear hp h
    go_enter Try.func32, Try.ntmps32
    go_wp2
    go_region
    all_goals go_wp2
    all_goals go_ret
    all_goals exact ⟨rfl, F, hAd.out, hId.out, hD0.out, fun _ e => .inl e⟩
  · have hne : s.ks ≠ [] := fun e => h (by rw [e]; simp; omega)
    have hi : ¬ ((s.ks.length : Nat) : Int) < (cap : Int) := by omega
    have hv := vic_raw hAd hne
    have hvm := s.vic_mem hne
    obtain ⟨n, hn⟩ : ∃ n, n = s.vic := ⟨_, rfl⟩
    rw [← hn] at hv hvm
    have hnw := hA.ok.wf n hvm
    obtain ⟨p, hp⟩ : ∃ p, p = pflush D t s n := ⟨_, rfl⟩
    have hq : proom D cap t s = if p.2.2 ≠ 0 then p else (p.1, p.2.1.del n, 0) := by
      unfold proom
      rw [if_neg h, ← hn, ← hp]
    obtain ⟨q, hq0⟩ : ∃ q, q = proom D cap t s := ⟨_, rfl⟩
    rw [← hq0]
    rw [hq] at hq0
    have hks := pflush_ks D t s n
    rw [← hp] at hks
    replace hq0 := Lib.hid hq0
    replace hA := Lib.hid hA
    replace hI := Lib.hid hI
    replace hAd := Lib.hid hAd
    replace hId := Lib.hid hId
    replace hD0 := Lib.hid hD0
    replace hv := Lib.hid hv
    replace hn := Lib.hid hn
    replace hp := Lib.hid hp
    replace hvm := Lib.hid hvm
    replace hks := Lib.hid hks
    clear hq h hne
    go_enter Try.func32, Try.ntmps32
    go_wp2
    go_region
    all_goals
      clear hl1 hl2 c0 c4
      go_wp2_with fail
      refine hv.out.mono ?_
      rintro e w1 ⟨rfl, hb1⟩
      have hA1 := hAd.out.more hb1
      have hI1 := E.kept hId.out (Chg.of_below (S := fun _ => False) hb1) (fun _ _ => id)
      have hD1 : Chg (PG F pb mb bk s) w w1 := hD0.out.trans (Chg.of_below (S := fun _ => False) hb1) (fun _ _ h => h.elim)
      have hf := flush_raw n hnw hA1 hI1 hl
      rw [← hp.out] at hf
      replace hf := Lib.hid hf
      replace hA1 := Lib.hid hA1
      replace hI1 := Lib.hid hI1
      replace hD1 := Lib.hid hD1
      clear hb1
      go_wp2_with fail
      refine hf.out.mono ?_
      rintro e w2 ⟨rfl, F2, hA2, hI2, hS2⟩
      have hS : Stp (PG F pb mb bk s) w (PG F2 pb mb bk p.2.1) w2 := ⟨hD1.out.trans hS2.1 (fun _ _ h => h), fun k e => (hS2.2 k e).elim .inl (fun e2 => .inr (Nat.le_trans hD1.out.size e2))⟩
      replace hS := Lib.hid hS
      clear hS2
      by_cases h0 : p.2.2 = 0
      · have hq := hq0.out
        rw [if_neg (by simpa using h0)] at hq
        replace hq := Lib.hid hq
        obtain ⟨_, _, _, _, c4, _, _, _⟩ := hA2.cells
        have hN := hA2.ok.rise.nodup
        have hM := Lib.hid hA2.map
        replace hA2 := Lib.hid hA2
        replace hI2 := Lib.hid hI2
        replace hN := Lib.hid hN
        rw [h0]
        go_wp2_with (refine wpList_pmap_drop rfl (.tmp 26) (.tmp 27) rfl rfl hM.out hN.out n rfl hnw ?_; intro w3 hM3 hg3)
        go_ret
        have hc : Chg (fun k => k = mb) w2 w3 := Chg.grown (S := fun k => k = mb) (Chg.refl _ _) hg3 (fun j _ e => by cases e; rfl)
        have hA3 := hA2.out.dropped hM3 hg3
        rw [hq.out]
        refine ⟨rfl, F2, hA3, E.kept hI2.out hc (fun k hk e => hA2.out.apart.2.1 (e ▸ hk)), hS.out.trans ⟨hc.mono (fun k _ e => .inr (.inl e)), fun k e => .inl ?_⟩⟩
        rcases e with e | e | ⟨x, hx, e⟩ | e
        · exact .inl e
        · exact .inr (.inl e)
        · exact .inr (.inr (.inl ⟨x, (List.mem_filter.1 hx).1, e⟩))
        · exact .inr (.inr (.inr e))
      · have hq := hq0.out
        rw [if_pos h0] at hq
        replace hq := Lib.hid hq
        have hb0 : (p.2.2 != 0) = true := by simpa using h0
        replace hA2 := Lib.hid hA2
        replace hI2 := Lib.hid hI2
        go_wp2
        go_ret
        rw [hq.out]
        exact ⟨rfl, F2, hA2.out, hI2.out, hS.out⟩
end
end Go.Proofs.Ytlbeaoglkhfdcaa
