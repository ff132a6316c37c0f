/- The walk of the law FrameCuts. No condition. -/
import Derived.Test.YtaecfgakgpndaaaFLPlaces
import Derived.Test.YtaecfgakgpndaaaFSl
import Derived.Deep.QuietTactic
import Derived.BigQuiet
namespace Go.Proofs.Ytaecfgakgpndaaa
open Go.RowKit
attribute [local go_sem] mk_size mk_append

theorem TAt.take {w : World} {a : Option Addr} {l : List (List UInt8)} (h : TAt w a l) (k : Nat) : TAt w a (l.take k) := fun j hj => by
  rw [List.length_take] at hj
  obtain ⟨b, o, e, hc⟩ := h j (by omega)
  exact ⟨b, o, e, by rw [hc]; simp⟩
/-- Of a row that a call made, with its capacity. -/
theorem TAt.own' {w : World} {base : Nat} {v : Value} {n : Nat} {l : List (List UInt8)} (h : w.ownsRow base 9 1 v n (scells l)) : ∃ a c, v = .slice a l.length c ∧ TAt w a l ∧ l.length ≤ c ∧ c ≤ maxLen := by
  have hn : n = l.length := by have := h.1; rw [scells_length] at this; omega
  obtain ⟨a, c, hv, ht⟩ := TAt.own h
  rcases h.2 with ⟨e, h0⟩ | ⟨g, cap, cur, e, _, _, hc, hm, _⟩
  · rw [hv] at e
    injection e with e1 e2 e3
    exact ⟨_, _, hv, ht, by omega, by unfold maxLen; omega⟩
  · rw [hv] at e
    injection e with e1 e2 e3
    exact ⟨_, _, hv, ht, by omega, by omega⟩
theorem scan_n (a : Option Addr) (n c : Nat) (l : List (List UInt8)) (r : St) (w : World) (hn : l.length = n) (hl : l.length ≤ 1000000) (hlen : ∀ b ∈ l, b.length ≤ 140737488351232) (ha : TAt w a l) (hr : scan st0 l = r) :
    Calls Try.prog 15 #[.slice a n c] w fun e w' => ∃ v, e = .returned (.tuple #[v, .int .i64 r.end_, .int .i64 r.last]) ∧ w'.ownsRow w.heap.size 9 1 v r.l.length (scells r.l) ∧ Below w.heap.size w w' := by
  subst hn
  exact scan_any a c l r w hl hlen ha hr
/-- Of sectors that are cut off the first records are left. -/
theorem cut_read {l : List (List UInt8)} (hl : recsOk l) (hne : l ≠ []) {e : Nat} (he : 1 ≤ e) (he' : e ≤ 4294967295) (hc : cnt l ≤ 65536) (k : Nat) (hk : k ≤ cnt l) :
    ∃ m, (scan st0 ((secs e 0 true (stream l)).take k)).l ++ m = l ∧ (scan st0 ((secs e 0 true (stream l)).take k)).end_ ≤ k ∧ (k = cnt l → m = []) := by
  rw [secs_take]
  by_cases h0 : k = 0
  · subst h0
    have hlen : 1 ≤ cnt l := by have := List.length_pos_iff.2 (stream_ne hne); rw [cnt]; omega
    rw [Nat.mul_zero, List.take_zero, secs_nil]
    exact ⟨l, rfl, Nat.le_refl _, fun h => by omega⟩
  · have hS := List.length_pos_iff.2 (stream_ne hne)
    have hn : (stream l).take (56 * k) ≠ [] := by
      intro h
      have := congrArg List.length h
      simp only [List.length_take, List.length_nil] at this
      omega
    have hcl : ((stream l).take (56 * k)).length ≤ 56 * k := by rw [List.length_take]; omega
    have hcl2 : ((stream l).take (56 * k)).length ≤ (stream l).length := by rw [List.length_take]; omega
    have hcnt : (((stream l).take (56 * k)).length + 55) / 56 ≤ k := by omega
    obtain ⟨en, la, h1, h2, h3⟩ := scan_secs hl he he' st0 [] (b := (stream l).take (56 * k)) (z := (stream l).drop (56 * k)) (List.take_append_drop _ _) hn (i := 0) (by rw [cnt] at hc; omega) rfl (by simp [st0]) (by simp [st0])
    rw [List.append_nil] at h1
    obtain ⟨hop, m, hm⟩ := drain_prefix hl (p := (stream l).take (56 * k)) (q := (stream l).drop (56 * k)) (List.take_append_drop _ _)
    rw [h1, scan, mid]
    refine ⟨m, by simpa [st0] using hm, by simp only; omega, fun hkc => ?_⟩
    have ht : (stream l).take (56 * k) = stream l := List.take_of_length_le (by rw [hkc, cnt]; omega)
    rw [ht, drain_stream l hl] at hm
    simpa using hm

theorem wf_bounds {n : Int} (h : (Lit.int .i64 n).wf = true) : -9223372036854775808 ≤ n ∧ n ≤ 9223372036854775807 := by
  simp [Lit.wf] at h
  have e : IntKind.i64.min = -9223372036854775808 := by decide
  exact ⟨by omega, h.2⟩

set_option maxRecDepth 100000 in
set_option maxHeartbeats 1600000 in
theorem frameCuts_walk (v : Value) (l : List (List UInt8)) (n : Int) (w : World) (hv : IsTexts w v l) (w1 : (Lit.int .i64 n).wf = true) :
    Calls Try.prog 5 #[v, .int .i64 n] w fun e w' => e = .returned (.bool true) ∧ Below w.heap.size w w' := by
  obtain ⟨a, c, rfl, ha, hlen, hz⟩ := hv
  cases hf : fewB l with
  | false =>
    go_enter Try.func5, Try.ntmps5
    go_wp2_with fail
    refine (few_any a c l _ ha hlen hz).mono ?_
    rintro e w2 ⟨rfl, rfl⟩
    rw [hf]
    go_wp2_with (go_at_call 11; refine (alive_true _).mono ?_; rintro e w3 ⟨rfl, h3⟩)
    go_ret
    exact ⟨rfl, h3⟩
  | true =>
    have hb := few_bounds hf
    have hc := cnt_few hf
    have hcl : (secs 2 0 true (stream l)).length = cnt l := secs_len _ _ _ _
    obtain ⟨hn1, hn2⟩ := wf_bounds w1
    go_enter Try.func5, Try.ntmps5
    go_wp2_with fail
    refine (few_any a c l _ ha hlen hz).mono ?_
    rintro e w2 ⟨rfl, rfl⟩
    rw [hf]
    go_wp2_with fail
    refine (alive_true _).mono ?_
    rintro e w3 ⟨rfl, h3⟩
    have ha3 := ha.more h3
    replace h3 := Lib.hid h3
    replace ha3 := Lib.hid ha3
    by_cases c3 : bytesOf l = []
    · go_wp2_with fail
      refine (batch_none 2 0 a c l _ (by omega) ha3.out c3).mono ?_
      rintro e w4 ⟨rfl, h4⟩
      replace h4 := Lib.hid (h3.out.trans (h4.mono h3.out.size))
      go_wp2
      go_ret
      exact ⟨rfl, h4.out⟩
    · have hok : recsOk l := by by_cases h : recsOk l; exact h; exact absurd (bytesOf_bad h) c3
      have hne : l ≠ [] := by intro h; subst h; exact c3 (by decide)
      replace c3 := Lib.hid c3
      obtain ⟨M, hM⟩ : ∃ M, M = cnt l := ⟨_, rfl⟩
      rw [← hM] at hc hcl
      have hcr := fun k hk => cut_read hok hne (e := 2) (by omega) (by omega) (by omega) k hk
      rw [← hM] at hcr
      obtain ⟨q, hq⟩ : ∃ q, n.tmod ((M : Int) + 1) = q := ⟨_, rfl⟩
      have hq1 : -(M : Int) ≤ q := by have := Int.lt_tmod_of_pos n (show (0 : Int) < (M : Int) + 1 by omega); omega
      have hq2 : q ≤ (M : Int) := by have := Int.tmod_lt_of_pos n (show (0 : Int) < (M : Int) + 1 by omega); omega
      obtain ⟨k, hk⟩ : ∃ k : Nat, (q + M + 1) % ((M : Int) + 1) = (k : Int) := ⟨((q + M + 1) % ((M : Int) + 1)).toNat, by rw [Int.toNat_of_nonneg (Int.emod_nonneg _ (by omega))]⟩
      have hkl : k ≤ M := by have := Int.emod_lt_of_pos (q + M + 1) (show (0 : Int) < (M : Int) + 1 by omega); omega
      obtain ⟨m, hm1, hm2, hm3⟩ := hcr k hkl
      clear hcr
      obtain ⟨r, hr⟩ : ∃ r, scan st0 ((secs 2 0 true (stream l)).take k) = r := ⟨_, rfl⟩
      rw [hr] at hm1 hm2
      have hrl : r.l.length + m.length = l.length := by rw [← hm1, List.length_append]
      replace hM := Lib.hid hM
      replace hcl := Lib.hid hcl
      replace hm1 := Lib.hid hm1
      replace hm3 := Lib.hid hm3
      replace hr := Lib.hid hr
      have hki : (k : Int) ≤ M := by omega
      have hk0 : (0 : Int) ≤ k := by omega
      go_wp2_with fail
      refine (batch_yes 2 0 a c l _ (by omega) ha3.out hok hne (by omega) (by omega) (by rw [← hM.out]; omega)).mono ?_
      rintro e w4 ⟨v4, rfl, ho4, h4⟩
      obtain ⟨a4, c4, rfl, ht4, hc4, hc4'⟩ := TAt.own' ho4
      rw [hcl.out] at hc4 ⊢
      have hcap : (M : Int) ≤ c4 := by omega
      have hkc : (k : Int) ≤ c4 := by omega
      unfold maxLen at hc4'
      have h4' := Lib.hid (h3.out.trans (h4.mono h3.out.size))
      have ha4 := Lib.hid (ha3.out.more h4)
      clear ho4 h4 ha3 h3
      replace ht4 := Lib.hid ht4
      have htl : ((secs 2 0 true (stream l)).take k).length = k := by rw [List.length_take, hcl.out]; omega
      go_wp2_with fail
      refine (scan_n a4 k c4 _ r _ htl (by rw [htl]; omega) (fun x hx => sec_size x (List.mem_of_mem_take hx)) (ht4.out.take k) hr.out).mono ?_
      rintro e w5 ⟨v5, rfl, ho5, h5⟩
      obtain ⟨a5, c5, rfl, ht5, hc5, hc5'⟩ := TAt.own' ho5
      unfold maxLen at hc5'
      have h5' := Lib.hid (h4'.out.trans (h5.mono h4'.out.size))
      have ha5 := Lib.hid (ha4.out.more h5)
      clear ho5 h5 ha4 h4' ht4 htl
      replace ht5 := Lib.hid ht5
      have k1 : decide (l.length < r.l.length) = false := by simp; omega
      have k2 : decide (k < r.end_) = false := by simp; omega
      go_wp2
      go_loopw [63] (fun i wr => ∃ j : Nat, j ≤ r.l.length ∧ i = .int .i64 j ∧ ∃ nn, wr = w5.drewN nn) (fun i _ => r.l.length - (intOf i).toNat)
      case atStart => exact ⟨0, Nat.zero_le _, rfl, 0, rfl⟩
      case round =>
        obtain ⟨j, hj, rfl, nn, rfl⟩ := hrel
        by_cases hlt : j < r.l.length
        · obtain ⟨b1, o1, rfl, g1⟩ := ht5.out j hlt
          obtain ⟨b2, o2, rfl, g2⟩ := ha5.out j (by omega)
          obtain ⟨x, hx⟩ : ∃ x, x = r.l[j] := ⟨_, rfl⟩
          have hxl : l[j]'(by omega) = x := by
            rw [hx]
            have : ∀ (l' : List (List UInt8)) (h : j < l'.length), l' = r.l ++ m → l'[j] = r.l[j] := by
              intro l' h e
              subst e
              exact List.getElem_append_left hlt
            exact this l (by omega) hm1.out.symm
          rw [← hx] at g1
          rw [hxl] at g2
          replace hx := Lib.hid hx
          clear hxl
          have hkk : (0 : Int) ≤ j := by omega
          have hkl1 : (j : Int) < r.l.length := by omega
          have hkl2 : (j : Int) < l.length := by omega
          have g1' : (w5.drewN nn).cell? ⟨b1, o1 + j, none⟩ = some (.string (mk x)) := g1
          have g2' : (w5.drewN nn).cell? ⟨b2, o2 + j, none⟩ = some (.string (mk x)) := g2
          go_wp2
          go_quiet (fail)
          go_wp2
          go_roundw
          case rel => exact ⟨j + 1, hlt, by go_num, _, rfl⟩
          case measure => simp [intOf]; omega
        · obtain rfl : j = r.l.length := by omega
          by_cases hkM : k < M
          · have k3 : decide (k < M) = true := by simp; omega
            go_wp2
            go_ret
            exact ⟨rfl, Below.drewN h5'.out _⟩
          · have k3 : decide (k < M) = false := by simp; omega
            have hm0 := hm3.out (by omega)
            have hll : r.l.length = l.length := by rw [hm0] at hrl; simpa using hrl
            have k4 : ((r.l.length : Int) == l.length) = true := by rw [beq_iff_eq]; omega
            replace hll := Lib.hid hll
            clear hm0
            go_wp2
            go_ret
            exact ⟨rfl, Below.drewN h5'.out _⟩
end Go.Proofs.Ytaecfgakgpndaaa
