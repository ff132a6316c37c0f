/- Which page goes first. No condition. -/
import Derived.Test.YtlbeaoglkhfdcaaOFlush
import Derived.Test.YtlbeaoglkhfdcaaOHas
namespace Go.Proofs.Ytlbeaoglkhfdcaa
open Go.RowKit Go.Maps Go.WideShapes
section
variable {σ : Type} {D : Dv σ} {E : Dev D} {w : World} {F G : Nat → Prop} {pb mb cap : Nat} {bk : Int → Nat} {t : σ} {s : PS}
theorem PAt.more {w' : World} (h : PAt E w F pb mb bk cap s) (hb : Below w.heap.size w w') : PAt E w' F pb mb bk cap s :=
  h.kept (S := fun _ => False) (Chg.of_below hb) id id (fun _ _ => id)
set_option maxHeartbeats 3200000 in
theorem vic_raw (hA : PAt E w F pb mb bk cap s) (hne : s.ks ≠ []) :
    Calls Try.prog 36 #[.pointer (some ⟨pb, 0, none⟩)] w fun e w' => e = .returned (.int .i64 s.vic) ∧ Below w.heap.size w w' := by
  have hh := has_raw hA
  replace hh := Lib.hid hh
  obtain ⟨k0, r0, hks⟩ : ∃ k0 r0, s.ks = k0 :: r0 := by
    cases e : s.ks with
    | nil => exact absurd e hne
    | cons a r => exact ⟨a, r, rfl⟩
  have hlen : 0 < s.ks.length := by rw [hks]; simp
  have hvic : s.vic = vicOf s.fr s.ks k0 := by unfold PS.vic; rw [hks]; rfl
  have hk0 : k0 ∈ s.ks := by rw [hks]; simp
  have hg0 : s.ks[0] = k0 := by simp [hks]
  rw [hvic]
  have hfew := hA.ok.few
  replace hA := Lib.hid hA
  replace hks := Lib.hid hks
  replace hvic := Lib.hid hvic
  replace hk0 := Lib.hid hk0
  clear hne
  go_enter Try.func36, Try.ntmps36
  go_wp2_with fail
  refine hh.out.mono ?_
  rintro e w1 ⟨v, rfl, ho, hb⟩
  obtain ⟨a1, c1, rfl, hx1⟩ := IAt.own ho
  obtain ⟨b1, o1, rfl, hc1⟩ := hx1 0 hlen
  rw [Nat.add_zero, hg0] at hc1
  have hA1 := Lib.hid (hA.out.more hb)
  replace hb := Lib.hid hb
  replace hx1 := Lib.hid hx1
  clear ho hh hg0
  go_wp2
  go_loopg [16, 4] s.ks.length (fun g i out wr => ∃ k : Nat, g + k = s.ks.length ∧ i = .int .i64 k ∧ out = .int .i64 (vicOf s.fr (s.ks.take k) k0) ∧ Aside (Chg (fun _ => False) w1 wr))
  case atStart => exact ⟨0, rfl, rfl, rfl, Chg.refl _ _⟩
  case round =>
    obtain ⟨k, hk, rfl, rfl, hI⟩ := hrel
    by_cases hlt : k < s.ks.length
    · have hA2 := hA1.out.kept hI.out id id (fun _ _ => id)
      obtain ⟨b2, o2, e2, hc2⟩ := hx1.out k hlt
      cases e2
      have hcx := hI.out
      have hc3 := (World.cell?_of_block (w := w1) (hcx.block _ (World.block_lt_of_cell? w1 _ hc2) id)).trans hc2
      have hblt := World.block_lt_of_cell? wr _ hc3
      have hstep := vicOf_take s.fr s.ks k0 k hlt
      have hxm : s.ks[k] ∈ s.ks := List.getElem_mem hlt
      have hom : vicOf s.fr (s.ks.take k) k0 ∈ s.ks := by
        rcases vicOf_mem s.fr (s.ks.take k) k0 with e | e
        · rw [e]; exact hk0.out
        · exact List.mem_of_mem_take e
      generalize vicOf s.fr (s.ks.take k) k0 = o at *
      obtain ⟨x, hx⟩ : ∃ x, x = s.ks[k] := ⟨_, rfl⟩
      rw [← hx] at hstep hxm hc3
      have hm1 := hA2.map.look (hA2.ok.wf x hxm)
      rw [if_pos hxm] at hm1
      have hm2 := hA2.map.look (hA2.ok.wf o hom)
      rw [if_pos hom] at hm2
      have hAd := hA2.kept (Chg.refl (fun _ => False) wr).drew id id (fun _ _ => id)
      have hm3 := hAd.map.look (hA2.ok.wf x hxm)
      rw [if_pos hxm] at hm3
      have hm4 := hAd.map.look (hA2.ok.wf o hom)
      rw [if_pos hom] at hm4
      clear hAd
      obtain ⟨_, _, _, _, c4, _, _, _⟩ := hA2.cells
      obtain ⟨_, _, _, _, f4, f5, _, fl⟩ := hA2.fcells hxm
      obtain ⟨_, _, _, _, g4, g5, _, gl⟩ := hA2.fcells hom
      have hstep2 := hstep
      unfold less at hstep2
      replace hstep2 := Lib.hid hstep2
      replace hI := Lib.hid hI
      replace hx := Lib.hid hx
      replace hA2 := Lib.hid hA2
      replace hxm := Lib.hid hxm
      replace hom := Lib.hid hom
      clear hstep hc1 hc2 hcx
      by_cases h1 : (s.fr x).ahead < (s.fr o).ahead
      · have hst := hstep2.out
        simp only [decide_eq_true h1, Bool.true_or, if_true] at hst
        replace hst := Lib.hid hst
        go_wp2
        go_region
        all_goals go_wp2
        all_goals go_quiet (fail)
        all_goals go_wp2
        all_goals go_roundg (s.ks.length - (k + 1))
        case rel => exact ⟨k + 1, by omega, by go_num, by rw [hst.out, hx.out], (by first | exact hI.out.out.drewN _ | exact hI.out.out.drew.drew | exact hI.out.out.drew)⟩
        case measure => omega
      · by_cases h2 : (s.fr x).ahead = (s.fr o).ahead
        · have hb2 : ((s.fr x).ahead == (s.fr o).ahead) = true := by rw [beq_iff_eq]; exact h2
          by_cases h3 : (s.fr x).now < (s.fr o).now
          · have hst := hstep2.out
            simp only [decide_eq_false h1, decide_eq_true h2, decide_eq_true h3, Bool.false_or, Bool.and_self, if_true] at hst
            replace hst := Lib.hid hst
            go_wp2
            go_region
            all_goals go_wp2
            all_goals go_quiet (fail)
            all_goals go_wp2
            all_goals go_roundg (s.ks.length - (k + 1))
            case rel => exact ⟨k + 1, by omega, by go_num, by rw [hst.out, hx.out], (by first | exact hI.out.out.drewN _ | exact hI.out.out.drew.drew | exact hI.out.out.drew)⟩
            case measure => omega
          · have hst := hstep2.out
            simp only [decide_eq_false h1, decide_eq_true h2, decide_eq_false h3, Bool.false_or, Bool.and_false, Bool.false_eq_true, if_false] at hst
            replace hst := Lib.hid hst
            go_wp2
            go_region
            all_goals go_wp2
            all_goals go_quiet (fail)
            all_goals go_wp2
            all_goals go_roundg (s.ks.length - (k + 1))
            case rel => exact ⟨k + 1, by omega, by go_num, by rw [hst.out], (by first | exact hI.out.out.drewN _ | exact hI.out.out.drew.drew | exact hI.out.out.drew)⟩
            case measure => omega
        · have h4 : (s.fr o).ahead < (s.fr x).ahead := by omega
          have hst := hstep2.out
          simp only [decide_eq_false h1, decide_eq_false h2, Bool.false_or, Bool.false_and, Bool.false_eq_true, if_false] at hst
          replace hst := Lib.hid hst
          have hd1 : decide ((s.fr x).ahead < (s.fr o).ahead) = false := decide_eq_false h1
          have hb2 : ((s.fr x).ahead == (s.fr o).ahead) = false := by rw [beq_eq_false_iff_ne]; exact h2
          clear h1 h2 h4
          go_wp2
          go_region
          all_goals go_wp2
          all_goals go_quiet (fail)
          all_goals go_wp2
          all_goals go_roundg (s.ks.length - (k + 1))
          case rel => exact ⟨k + 1, by omega, by go_num, by rw [hst.out], (by first | exact hI.out.out.drewN _ | exact hI.out.out.drew.drew | exact hI.out.out.drew)⟩
          case measure => omega
    · obtain rfl : k = s.ks.length := by omega
      rw [List.take_length]
      have hI2 := Lib.hid hI.out
      clear hI
      go_wp2
      go_ret
      exact ⟨rfl, hb.out.trans (hI2.out.below (fun _ _ h => h.elim) hb.out.size)⟩
end
end Go.Proofs.Ytlbeaoglkhfdcaa
