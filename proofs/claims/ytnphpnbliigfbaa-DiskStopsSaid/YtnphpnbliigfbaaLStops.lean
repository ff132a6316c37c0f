/- The walk of the law DiskStops. No condition. -/
import Derived.Test.YtnphpnbliigfbaaLd
namespace Go.Proofs.Ytnphpnbliigfbaa
open Go.RowKit

set_option maxHeartbeats 1600000 in
theorem diskStops_walk (n more : Int) (w : World) (w0 : (Lit.int .i64 n).wf = true) (w1 : (Lit.int .i64 more).wf = true) :
    Calls Try.prog 6 #[.int .i64 n, .int .i64 more] w fun e w' => e = .returned (.bool true) ∧ Below w.heap.size w w' := by
  by_cases g1 : n < 0
  · go_enter Try.func6, Try.ntmps6
    go_wp2_with (go_at_call 12; refine (alive_true _).mono ?_; rintro e w1 ⟨rfl, h⟩)
    go_ret
    exact ⟨rfl, h⟩
  by_cases g2 : 30 < n
  · go_enter Try.func6, Try.ntmps6
    go_wp2_with (go_at_call 12; refine (alive_true _).mono ?_; rintro e w1 ⟨rfl, h⟩)
    go_ret
    exact ⟨rfl, h⟩
  by_cases g3 : more < 0
  · go_enter Try.func6, Try.ntmps6
    go_wp2_with (go_at_call 12; refine (alive_true _).mono ?_; rintro e w1 ⟨rfl, h⟩)
    go_ret
    exact ⟨rfl, h⟩
  by_cases g4 : 10 < more
  · go_enter Try.func6, Try.ntmps6
    go_wp2_with (go_at_call 12; refine (alive_true _).mono ?_; rintro e w1 ⟨rfl, h⟩)
    go_ret
    exact ⟨rfl, h⟩
  obtain ⟨n, rfl⟩ := Int.eq_ofNat_of_zero_le (show 0 ≤ n by omega)
  obtain ⟨more, rfl⟩ := Int.eq_ofNat_of_zero_le (show 0 ≤ more by omega)
  go_enter Try.func6, Try.ntmps6
  go_wp2_with (go_at_call 12; refine (alive_true _).mono ?_; rintro e w1 ⟨rfl, h⟩)
  refine (iNew 60 (by omega) (by omega) h h.size).mono ?_
  rintro e w2 ⟨B, rfl, h2⟩
  replace h2 := Lib.hid h2
  go_wp2_with fail
  refine (iStop n (q_stop fx 60 n) (by omega) (by omega) h2.out).mono ?_
  rintro e w3 ⟨rfl, h3⟩
  replace h3 := Lib.hid h3
  go_wp2_with fail
  go_loopw [6] (fun i wr => ∃ j : Nat, j ≤ n ∧ i = .int .i64 j ∧ DIn w.heap.size w wr B (dks fx 60 n j false)) (fun i _ => n - (intOf i).toNat)
  case atStart => exact ⟨0, Nat.zero_le _, rfl, h3.out⟩
  case round =>
    obtain ⟨j, hj, rfl, hd⟩ := hrel
    replace hd := Lib.hid hd
    by_cases hlt : j < n
    · go_wp2_with fail
      refine (fill_any [120] wr).mono ?_
      rintro e w4 ⟨rfl, b4⟩
      have h4 := Lib.hid (hd.out.more b4)
      clear b4 hd
      go_wp2_with fail
      refine (iWrite j fx (q_write fx (fill_length _) 60 n j (by omega) hlt) (by simp [dks, run_length]; omega) h4.out).mono ?_
      rintro e w5 ⟨rfl, h5⟩
      replace h5 := Lib.hid h5
      go_wp2_with fail
      refine (iDead h5.out).mono ?_
      rintro e w6 ⟨rfl, rfl⟩
      have e1 : (dks fx 60 n (j + 1) false).dead = false := rfl
      rw [e1]
      clear e1
      go_wp2
      go_roundw
      case rel => exact ⟨j + 1, hlt, by go_num, h5.out⟩
      case measure => simp [intOf]; omega
    · obtain rfl : j = n := by omega
      go_wp2
      clear h2 h3 h
      obtain ⟨wo, rfl⟩ : ∃ wo : World, wo = wr := ⟨_, rfl⟩
      go_loopw [7] (fun i wr => ∃ k : Nat, k ≤ more + 1 ∧ i = .int .i64 k ∧ DIn w.heap.size w wr B (dks fx 60 j j (decide (0 < k)))) (fun i _ => more + 1 - (intOf i).toNat)
      case atStart => exact ⟨0, Nat.zero_le _, rfl, hd.out⟩
      case round =>
        obtain ⟨k, hk, rfl, hd2⟩ := hrel
        replace hd2 := Lib.hid hd2
        by_cases hlt2 : k ≤ more
        · go_wp2_with fail
          refine (fill_any [121] wr).mono ?_
          rintro e w4 ⟨rfl, b4⟩
          have h4 := Lib.hid (hd2.out.more b4)
          clear b4 hd2
          go_wp2_with fail
          have q : dwrite (dks fx 60 j j (decide (0 < k))) k fy = (dks fx 60 j j true, 10) := by
            by_cases hk0 : 0 < k
            · rw [decide_eq_true hk0]; exact q_dead fx 60 j k fy
            · obtain rfl : k = 0 := by omega
              exact q_dies fx 60 j 0 fy (fill_length _) (by omega)
          refine (iWrite k fy q (by simp [dks, run_length]; omega) h4.out).mono ?_
          rintro e w5 ⟨rfl, h5⟩
          replace h5 := Lib.hid h5
          clear q
          go_wp2_with fail
          refine (iDead h5.out).mono ?_
          rintro e w6 ⟨rfl, rfl⟩
          have e1 : (dks fx 60 j j true).dead = true := rfl
          rw [e1]
          clear e1
          go_wp2_with fail
          refine (iSync (d' := dks fx 60 j j true) (x := 10) rfl h5.out).mono ?_
          rintro e w6 ⟨rfl, h6⟩
          replace h6 := Lib.hid h6
          go_wp2_with fail
          refine (iPending h6.out).mono ?_
          rintro e w7 ⟨rfl, rfl⟩
          have e1 : (dks fx 60 j j true).pend.length = j := run_length _ _
          rw [e1]
          clear e1
          go_wp2
          go_roundw
          case rel => exact ⟨k + 1, by omega, by go_num, by rw [decide_eq_true (by omega)]; exact h6.out⟩
          case measure => simp [intOf]; omega
        · obtain rfl : k = more + 1 := by omega
          rw [decide_eq_true (show 0 < more + 1 by omega)] at hd2
          go_wp2_with fail
          refine (iRead 0 (s := []) (x := 10) rfl hd2.out).mono ?_
          rintro e w7 ⟨rfl, rfl⟩
          go_wp2_with fail
          refine (iCrash none 0 [] (q_crash fx 60 j j true) (fun j hj => by simp at hj) (by simp) hd2.out).mono ?_
          rintro e w8 ⟨rfl, h8⟩
          replace h8 := Lib.hid h8
          go_wp2_with fail
          refine (iDead h8.out).mono ?_
          rintro e w9 ⟨rfl, rfl⟩
          rw [show (dnew 60).dead = false from rfl]
          go_wp2_with fail
          refine (fill_any [122] _).mono ?_
          rintro e w10 ⟨rfl, b10⟩
          have h10 := Lib.hid (h8.out.more b10)
          clear b10
          go_wp2_with fail
          refine (iWrite 0 fz (q_first 60 fz (fill_length _) (by omega)) (by simp [dnew]) h10.out).mono ?_
          rintro e w11 ⟨rfl, h11⟩
          replace h11 := Lib.hid h11
          go_wp2_with fail
          refine (iSync (d' := _) (x := 0) rfl h11.out).mono ?_
          rintro e w12 ⟨rfl, h12⟩
          replace h12 := Lib.hid h12
          go_wp2
          go_ret
          exact ⟨rfl, h12.out.was.1⟩
end Go.Proofs.Ytnphpnbliigfbaa
