/- The walk of the law RecordSizes. No condition but the table of spaces. -/
import Derived.Test.YtikdjbcfckjccaaDoorRecF
namespace Go.Proofs.YtikdjbcfckjccaaDoor
open Go.RowKit
attribute [local go_sem] mk_size mk_append lit_append
set_option maxRecDepth 100000 in
set_option maxHeartbeats 3200000 in
theorem recordSizes_walk (v : Value) (r : Rec) (w : World) (hT : Tab w) (hv : IsRec w v r) : Calls Tryd.prog 4 #[v] w fun e w' => e = .returned (.bool true) ∧ Below w.heap.size w w' := by
  obtain ⟨⟨vp, vt, vx, vd, hR⟩, hl1, hl2⟩ := hv
  obtain ⟨a1, c1, a2, c2, a3, c3, a4, c4, rfl, rfl, rfl, rfl, rfl⟩ := recAt_form hR
  have hB0 := RB.start hR
  have cL := light_any _ _ _ _ _ r _ hB0.at_ hl1 hl2
  replace cL := Lib.hid cL
  replace hB0 := Lib.hid hB0
  clear hR
  go_enter Tryd.func4, Tryd.ntmps4
  go_wp2_with fail
  refine cL.out.mono ?_
  rintro e w1 ⟨bb, rfl, hbb, hb1⟩
  have hB1 := hB0.out.more hb1
  have hT1 := hT.more hB1.bel
  clear hb1 hB0 cL
  replace hB1 := Lib.hid hB1
  replace hbb := Lib.hid hbb
  cases bb with
  | false =>
    go_wp2_with fail
    refine (alive_true _ hT1).mono ?_
    rintro e w2 ⟨rfl, hb2⟩
    have hb2' := Lib.hid (hB1.out.bel.trans (hb2.mono hB1.out.bel.size))
    clear hb2
    go_wp2
    go_ret
    exact ⟨rfl, hb2'.out⟩
  | true =>
    obtain ⟨g1, g2, g3, g4⟩ := hbb.out rfl
    go_wp2_with fail
    refine (alive_true _ hT1).mono ?_
    rintro e w2 ⟨rfl, hb2⟩
    have hB2 := hB1.out.more hb2
    have hT2 := hT.more hB2.bel
    have cP := put_any _ _ _ _ _ r w2 hT2 hB2.at_
    obtain ⟨ok, hok⟩ : ∃ ok, ok = recOk r := ⟨_, rfl⟩
    rw [← hok] at cP
    obtain ⟨⟨d0, d1, d2, d3, d4, d5, d6⟩, ⟨d7, d8, d9, d10, d11, d12, d13⟩, hl9⟩ := rec_cells hB2.box
    replace hB2 := Lib.hid hB2
    replace cP := Lib.hid cP
    clear hb2 hT1 hB1 hbb
    go_wp2_with fail
    refine cP.out.mono ?_
    rintro e w3 ⟨rfl, hb3⟩
    have hB3 := hB2.out.more hb3
    have hT3 := hT.more hB3.bel
    clear hB2 cP hb3 hT2 d0 d1 d2 d3 d4 d5 d6 d7 d8 d9 d10 d11 d12 d13 hl9
    obtain ⟨⟨d0, d1, d2, d3, d4, d5, d6⟩, ⟨d7, d8, d9, d10, d11, d12, d13⟩, hl9⟩ := rec_cells hB3.box
    have cR := fun w4 (h : Below w3.heap.size w3 w4) => right_any _ _ _ _ _ r w4 (hT3.more h) (hB3.at_.more h)
    rw [← hok] at cR
    replace cR := Lib.hid cR
    cases ok with
    | false =>
      replace hB3 := Lib.hid hB3
      replace hok := Lib.hid hok
      go_wp2_with fail
      refine (cR.out _ (Below.refl _ _)).mono ?_
      rintro e w4 ⟨rfl, hb4⟩
      have hb4' := Lib.hid (hB3.out.bel.trans (hb4.mono hB3.out.bel.size))
      clear hb4
      go_wp2
      go_ret
      exact ⟨rfl, hb4'.out⟩
    | true =>
      have hlen := enc_length r
      obtain ⟨bs, hbs⟩ : ∃ bs, bs = enc r := ⟨_, rfl⟩
      rw [if_pos rfl, ← hbs]
      rw [← hbs] at hlen
      have hro := (recOk_iff r).1 hok.symm
      obtain ⟨s1, s2, s3, s4, s5⟩ := small_of hro
      obtain ⟨q1, q2, _, _⟩ := cell_small hro.old
      have q3 := hro.key
      replace hB3 := Lib.hid hB3
      replace hok := Lib.hid hok
      replace hro := Lib.hid hro
      replace hbs := Lib.hid hbs
      replace hlen := Lib.hid hlen
      go_wp2_with fail
      obtain ⟨B, hB⟩ : ∃ B : Nat, B = 32 + r.key.length + r.old.key.length + r.old.val.length + 2 * r.pages.length + 6 * r.dirty.length := ⟨_, rfl⟩
      have hBb : B ≤ 100000000 := by omega
      have hps : ∀ k, psum (r.pats.take k) ≤ 262 * 1000000 := fun k => Nat.le_trans (psum_le _ (fun p hp => pat_len (hro.out.patsOk p (List.mem_of_mem_take hp)))) (by rw [List.length_take]; omega)
      have hts : ∀ k, tsum (r.txs.take k) ≤ 2000010 * 1000000 := fun k => Nat.le_trans (tsum_le _ (fun p hp => s5 p (List.mem_of_mem_take hp))) (by rw [List.length_take]; omega)
      replace hlen : bs.length = B + psum r.pats + tsum r.txs := by have := hlen.out; simp only [psum, tsum]; omega
      replace hlen := Lib.hid hlen
      replace hts := Lib.hid hts
      replace hps := Lib.hid hps
      obtain ⟨_, _, eA, hA⟩ := hB3.out.at_.pats
      cases eA
      obtain ⟨_, _, eB, hX⟩ := hB3.out.at_.txs
      cases eB
      replace hA := Lib.hid hA
      replace hX := Lib.hid hX
      go_loopw [5, 63] (fun n i wr => ∃ k : Nat, k ≤ r.pats.length ∧ i = .int .i64 k ∧ n = .int .i64 ((B + psum (r.pats.take k) : Nat) : Int) ∧ Aside (Below w3.heap.size w3 wr)) (fun _ i _ => r.pats.length - (intOf i).toNat)
      case atStart => exact ⟨0, Nat.zero_le _, rfl, by congr 1; simp [psum]; omega, Below.refl _ _⟩
      case round =>
        obtain ⟨k, hk, rfl, rfl, hI⟩ := hrel
        by_cases hlt : k < r.pats.length
        · obtain ⟨b, o, rfl, h1, h2, h3⟩ := hA.out k hlt
          have hn := psum_take r.pats k hlt
          have hnb := hps.out (k + 1)
          obtain ⟨⟨x1, x2, x3⟩, hx⟩ : ∃ x, x = r.pats[k] := ⟨_, rfl⟩
          rw [← hx] at h1 h2 h3 hn
          simp only at h1 h2 h3 hn
          obtain ⟨N, hN⟩ : ∃ N, N = psum (r.pats.take k) := ⟨_, rfl⟩
          obtain ⟨M, hM⟩ : ∃ M, M = psum (r.pats.take (k + 1)) := ⟨_, rfl⟩
          rw [← hN, ← hM] at hn
          rw [← hM] at hnb
          rw [← hN]
          have g1 := cell_more hI.out h1
          have g2 := cell_more hI.out h2
          have g3 := cell_more hI.out h3
          have hlt1 := World.block_lt_of_cell? _ _ g1
          have hb := Lib.hid hI.out
          replace hx := Lib.hid hx
          replace hN := Lib.hid hN
          replace hM := Lib.hid hM
          clear h1 h2 h3 hI
          go_wp2
          go_roundw
          case rel => exact ⟨k + 1, hlt, by go_num, by rw [← hM.out]; congr 1; omega, hb.out.alloc hb.out.size _⟩
          case measure => simp [intOf]; omega
        · obtain rfl : k = r.pats.length := by omega
          clear hk hlt
          have hb := Lib.hid hI.out
          have hB4 := hB3.out.more hI.out
          obtain ⟨⟨d0, d1, d2, d3, d4, d5, d6⟩, ⟨d7, d8, d9, d10, d11, d12, d13⟩, hl9⟩ := rec_cells hB4.box
          replace hB4 := Lib.hid hB4
          clear hI
          go_wp2
          go_loopw [5, 77] (fun n i wr => ∃ k : Nat, k ≤ r.txs.length ∧ i = .int .i64 k ∧ n = .int .i64 ((B + psum r.pats + tsum (r.txs.take k) : Nat) : Int) ∧ Aside (Below w3.heap.size w3 wr)) (fun _ i _ => r.txs.length - (intOf i).toNat)
          case atStart => exact ⟨0, Nat.zero_le _, rfl, by rw [List.take_length]; congr 1, hb.out⟩
          case round =>
            obtain ⟨k, hk, rfl, rfl, hI⟩ := hrel
            by_cases hlt : k < r.txs.length
            · obtain ⟨b, o, u, rfl, h1, h2, h3, h4, a5, c5, rfl, _⟩ := hX.out k hlt
              have hn := tsum_take r.txs k hlt
              have hnb := hts.out (k + 1)
              have hnp := hps.out r.pats.length
              rw [List.take_length] at hnp
              obtain ⟨⟨x1, x2, x3, x4⟩, hx⟩ : ∃ x, x = r.txs[k] := ⟨_, rfl⟩
              rw [← hx] at h1 h2 h3 h4 hn
              simp only at h1 h2 h3 h4 hn
              obtain ⟨N, hN⟩ : ∃ N, N = tsum (r.txs.take k) := ⟨_, rfl⟩
              obtain ⟨M, hM⟩ : ∃ M, M = tsum (r.txs.take (k + 1)) := ⟨_, rfl⟩
              obtain ⟨O, hO⟩ : ∃ O, O = psum r.pats := ⟨_, rfl⟩
              rw [← hN, ← hM] at hn
              rw [← hM] at hnb
              rw [← hO] at hnp
              rw [← hN, ← hO]
              have g1 := cell_more hI.out h1
              have g2 := cell_more hI.out h2
              have g3 := cell_more hI.out h3
              have g4 := cell_more hI.out h4
              have hlt1 := World.block_lt_of_cell? _ _ g1
              have hb := Lib.hid hI.out
              replace hx := Lib.hid hx
              replace hN := Lib.hid hN
              replace hM := Lib.hid hM
              replace hO := Lib.hid hO
              clear h1 h2 h3 h4 hI
              go_wp2
              go_roundw
              case rel => exact ⟨k + 1, hlt, by go_num, by rw [← hM.out]; congr 1; (try rw [← hO.out]); omega, hb.out.alloc hb.out.size _⟩
              case measure => simp [intOf]; omega
            · obtain rfl : k = r.txs.length := by omega
              clear hk hlt
              rw [List.take_length, ← hlen.out]
              have hb := Lib.hid hI.out
              have hB5 := hB3.out.more hI.out
              clear d0 d1 d2 d3 d4 d5 d6 d7 d8 d9 d10 d11 d12 d13 hl9 hB4
              obtain ⟨⟨d0, d1, d2, d3, d4, d5, d6⟩, ⟨d7, d8, d9, d10, d11, d12, d13⟩, hl9⟩ := rec_cells hB5.box
              replace hB5 := Lib.hid hB5
              have hee : (((bs.length : Nat) : Int) == ((bs.length : Nat) : Int)) = true := beq_self_eq_true _
              clear hI
              go_wp2_with fail
              refine (cR.out _ hb.out).mono ?_
              rintro e w6 ⟨rfl, hb6⟩
              have hb6' := Lib.hid (hB5.out.bel.trans (hb6.mono hB5.out.bel.size))
              clear hb6
              go_wp2
              go_ret
              exact ⟨rfl, hb6'.out⟩
end Go.Proofs.YtikdjbcfckjccaaDoor
