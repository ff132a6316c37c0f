/- The walk of the law FrameBatch. No condition. -/
import Derived.Test.YtaecfgakgpndaaaFLPlaces
import Derived.Test.YtaecfgakgpndaaaFSl
import Derived.Test.YtaecfgakgpndaaaFGet
namespace Go.Proofs.Ytaecfgakgpndaaa
open Go.RowKit
attribute [local go_sem] mk_size mk_append

set_option maxRecDepth 100000 in
set_option maxHeartbeats 1600000 in
theorem frameBatch_walk (v : Value) (l : List (List UInt8)) (ep ix : Int) (w : World) (hv : IsTexts w v l) (w1 : (Lit.int .i64 ep).wf = true) (w2 : (Lit.int .i64 ix).wf = true) :
    Calls Try.prog 7 #[v, .int .i64 ep, .int .i64 ix] w fun e w' => e = .returned (.bool true) ∧ Below w.heap.size w w' := by
  obtain ⟨a, c, rfl, ha, hlen, hz⟩ := hv
  cases hf : fewB l with
  | false =>
    go_enter Try.func7, Try.ntmps7
    go_wp2_with fail
    refine (few_any a c l _ ha hlen hz).mono ?_
    rintro e w2 ⟨rfl, rfl⟩
    rw [hf]
    go_wp2_with (go_at_call 11; refine (alive_true _).mono ?_; rintro e w3 ⟨rfl, h3⟩)
    go_ret
    exact ⟨rfl, h3⟩
  | true =>
    by_cases c0 : ep < 1
    · go_enter Try.func7, Try.ntmps7
      go_wp2_with fail
      refine (few_any a c l _ ha hlen hz).mono ?_
      rintro e w2 ⟨rfl, rfl⟩
      rw [hf]
      go_wp2_with (go_at_call 11; refine (alive_true _).mono ?_; rintro e w3 ⟨rfl, h3⟩)
      go_ret
      exact ⟨rfl, h3⟩
    by_cases c1 : 1000 < ep
    · go_enter Try.func7, Try.ntmps7
      go_wp2_with fail
      refine (few_any a c l _ ha hlen hz).mono ?_
      rintro e w2 ⟨rfl, rfl⟩
      rw [hf]
      go_wp2_with (go_at_call 11; refine (alive_true _).mono ?_; rintro e w3 ⟨rfl, h3⟩)
      go_ret
      exact ⟨rfl, h3⟩
    by_cases c2 : ix < 0
    · go_enter Try.func7, Try.ntmps7
      go_wp2_with fail
      refine (few_any a c l _ ha hlen hz).mono ?_
      rintro e w2 ⟨rfl, rfl⟩
      rw [hf]
      go_wp2_with (go_at_call 11; refine (alive_true _).mono ?_; rintro e w3 ⟨rfl, h3⟩)
      go_ret
      exact ⟨rfl, h3⟩
    by_cases c3 : 1000 < ix
    · go_enter Try.func7, Try.ntmps7
      go_wp2_with fail
      refine (few_any a c l _ ha hlen hz).mono ?_
      rintro e w2 ⟨rfl, rfl⟩
      rw [hf]
      go_wp2_with (go_at_call 11; refine (alive_true _).mono ?_; rintro e w3 ⟨rfl, h3⟩)
      go_ret
      exact ⟨rfl, h3⟩
    obtain ⟨m, rfl⟩ := Int.eq_ofNat_of_zero_le (show 0 ≤ ep by omega)
    obtain ⟨n, rfl⟩ := Int.eq_ofNat_of_zero_le (show 0 ≤ ix by omega)
    have hb := few_bounds hf
    have hc := cnt_few hf
    have hcl : (secs m n true (stream l)).length = cnt l := secs_len _ _ _ _
    go_enter Try.func7, Try.ntmps7
    go_wp2_with fail
    refine (few_any a c l _ ha hlen hz).mono ?_
    rintro e w2 ⟨rfl, rfl⟩
    rw [hf]
    go_wp2_with fail
    refine (alive_true _).mono ?_
    rintro e w3 ⟨rfl, h3⟩
    have ha3 := ha.more h3
    replace h3 := Lib.hid h3
    replace ha3 := Lib.hid ha3
    by_cases c3 : bytesOf l = []
    · go_wp2_with fail
      refine (batch_none m n a c l _ (by omega) ha3.out c3).mono ?_
      rintro e w4 ⟨rfl, h4⟩
      have ha4 := ha3.out.more h4
      replace h4 := Lib.hid (h3.out.trans (h4.mono h3.out.size))
      go_wp2_with fail
      refine (count_any a c l _ (by omega) ha4).mono ?_
      rintro e w5 ⟨rfl, h5⟩
      rw [c3]
      go_wp2
      go_ret
      exact ⟨rfl, h4.out.trans (h5.mono h4.out.size)⟩
    · have hok : recsOk l := by by_cases h : recsOk l; exact h; exact absurd (bytesOf_bad h) c3
      have hne : l ≠ [] := by intro h; subst h; exact c3 (by decide)
      replace c3 := Lib.hid c3
      replace hcl := Lib.hid hcl
      go_wp2_with fail
      refine (batch_yes m n a c l _ (by omega) ha3.out hok hne (by omega) (by omega) (by omega)).mono ?_
      rintro e w4 ⟨v4, rfl, ho4, h4⟩
      obtain ⟨a4, c4, rfl, ht4⟩ := TAt.own ho4
      have ha4 := ha3.out.more h4
      replace ha4 := Lib.hid ha4
      replace h4 := Lib.hid (h3.out.trans (h4.mono h3.out.size))
      clear ho4
      have hsz : (stream l).length = 2 * l.length + tot l := stream_tot l
      obtain ⟨C, hC⟩ : ∃ C, (secs m n true (stream l)).length = C := ⟨_, rfl⟩
      have hC2 : C = ((stream l).length + 55) / 56 := by rw [← hC]; exact secs_len _ _ _ _
      have hSl : 1 ≤ (stream l).length := List.length_pos_iff.2 (stream_ne hne)
      obtain ⟨L, hL⟩ : ∃ L, (stream l).length = L := ⟨_, rfl⟩
      have hcb := bytesOf_ok hok
      have hLb : L ≤ 1540 := by omega
      have htb : ∀ k, k ≤ l.length → tot (l.take k) ≤ k * 1500 := by
        intro k
        induction k with
        | zero => intro _; simp [tot]
        | succ k ih =>
          intro hk
          have h1 := hb.2.2 l[k] (List.getElem_mem (by omega))
          rw [tot_take l k (by omega)]
          have := ih (by omega)
          omega
      replace htb := Lib.hid htb
      replace hcb := Lib.hid hcb
      replace ht4 := Lib.hid ht4
      replace hok := Lib.hid hok
      rw [hL] at hC2 hSl
      rw [hC]
      clear hcl
      replace hC2 := Lib.hid hC2
      go_wp2
      go_loopw [53, 9] (fun x s wr => ∃ k : Nat, k ≤ C ∧ x = .int .i64 k ∧ s = .int .i64 (min (56 * k) L : Nat) ∧ Below w4.heap.size w4 wr) (fun x _ _ => C - (intOf x).toNat)
      case atStart => exact ⟨0, Nat.zero_le _, rfl, by simp, Below.refl _ _⟩
      case round =>
        obtain ⟨k, hk, rfl, rfl, hw⟩ := hrel
        have ht := ht4.out.more hw
        replace hw := Lib.hid hw
        have hC3 := hC2.out
        by_cases hlt : k < C
        · obtain ⟨bb, o, rfl, g⟩ := ht k (by rw [hC]; exact hlt)
          rw [secs_get] at g
          obtain ⟨pk, hpk⟩ : ∃ pk, ((stream l).drop (56 * k)).take 56 = pk := ⟨_, rfl⟩
          have hpl : pk.length = min 56 (L - 56 * k) := by rw [← hpk, List.length_take, List.length_drop, hL]
          rw [hpk] at g
          obtain ⟨fr, hfr⟩ : ∃ fr, (true && decide (k = 0)) = fr := ⟨_, rfl⟩
          rw [hfr] at g
          have hfr2 : fr = ((k : Int) == 0) := by rw [← hfr]; by_cases z : k = 0 <;> simp [z]
          have hdk : dec (enc m (n + k) fr pk) = some ⟨m, n + k, fr, pk⟩ := dec_enc (secOk_iff.2 (by omega))
          have hel : (enc m (n + k) fr pk).length = 64 := enc_length (by omega)
          obtain ⟨eb, heb⟩ : ∃ eb, eb = enc m (n + k) fr pk := ⟨_, rfl⟩
          rw [← heb] at g hdk hel
          have hmin : min (56 * k) L = 56 * k := by omega
          have hmin2 : min (56 * (k + 1)) L = 56 * k + pk.length := by omega
          have hwi : IntKind.i64.wrap ((n : Int) + k) = (n : Int) + k := by rw [IntKind.wrap_i64]; omega
          have hlast : k < C - 1 → pk.length = 56 := by omega
          rw [hmin]
          have hC28 : C ≤ 28 := by omega
          have hk28 : k + 1 ≤ 28 := by omega
          replace hmin2 := Lib.hid hmin2
          replace hpl := Lib.hid hpl
          replace hC3 := Lib.hid hC3
          clear hmin hlast
          replace hdk := Lib.hid hdk
          replace heb := Lib.hid heb
          replace hfr := Lib.hid hfr
          replace hpk := Lib.hid hpk
          by_cases kl : (k : Int) < (C : Int) - 1
          all_goals
            try have h56 : ((pk.length : Int) != 56) = false := by have := hpl.out; have := hC3.out; rw [bne_eq_false_iff_eq]; omega
            have hpk56 : pk.length ≤ 56 := by have := hpl.out; omega
            go_wp2_with fail
            refine (get_any eb _ _ (by omega) hdk.out).mono ?_
            rintro en w6 ⟨rfl, h6⟩
            rw [secV]
            have h6' := Lib.hid (hw.out.trans (h6.mono hw.out.size))
            clear h6
            simp only [Int.natCast_add, hfr2]
            go_wp2
            go_roundw
            case rel => exact ⟨k + 1, hlt, by go_num, by rw [hmin2.out]; go_num, h6'.out.alloc h6'.out.size _⟩
            case measure => simp [intOf]; omega
        · obtain rfl : k = C := by omega
          have hmm : min (56 * k) L = L := by omega
          rw [hmm]
          have ha6 := ha4.out.more hw.out
          replace ha6 := Lib.hid ha6
          clear ht hC3
          go_wp2
          go_loop [108, 9] (fun i s => ∃ j : Nat, j ≤ l.length ∧ i = .int .i64 j ∧ s = .int .i64 ((L : Int) - (2 * j + tot (l.take j) : Nat))) (fun i _ => l.length - (intOf i).toNat)
          case atStart => exact ⟨0, Nat.zero_le _, rfl, by simp [tot]⟩
          case round =>
            obtain ⟨j, hj, rfl, rfl⟩ := hrel
            by_cases hlt2 : j < l.length
            · obtain ⟨b2, o2, rfl, g2⟩ := ha6.out j hlt2
              have ht2 := tot_take l j hlt2
              have hbk := htb.out (j + 1) hlt2
              obtain ⟨y, hy⟩ : ∃ y, y = l[j] := ⟨_, rfl⟩
              rw [← hy] at g2 ht2
              rw [ht2] at hbk
              replace hy := Lib.hid hy
              replace ht2 := Lib.hid ht2
              generalize tot (l.take j) = t at *
              go_wp2
              go_round
              case rel => exact ⟨j + 1, hlt2, by go_num, by rw [ht2.out]; go_num⟩
              case measure => simp [intOf]; omega
            · obtain rfl : j = l.length := by omega
              rw [List.take_length, show (L : Int) - (2 * l.length + tot l : Nat) = 0 by omega]
              go_wp2_with fail
              refine (count_any a c l _ (by omega) ha6.out).mono ?_
              rintro en w7 ⟨rfl, h7⟩
              rw [hcb.out, hL, ← hC2.out]
              go_wp2
              go_ret
              exact ⟨by simp, h4.out.trans ((hw.out.trans (h7.mono hw.out.size)).mono h4.out.size)⟩
end Go.Proofs.Ytaecfgakgpndaaa
