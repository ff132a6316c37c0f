/- The walk of the law DiskAnew. No condition. -/
import Derived.Test.YtnphpnbliigfbaaLd
namespace Go.Proofs.Ytnphpnbliigfbaa
open Go.RowKit

set_option maxHeartbeats 1600000 in
theorem diskAnew_walk (n more : Int) (w : World) (w0 : (Lit.int .i64 n).wf = true) (w1 : (Lit.int .i64 more).wf = true) :
    Calls Try.prog 7 #[.int .i64 n, .int .i64 more] w fun e w' => e = .returned (.bool true) ∧ Below w.heap.size w w' := by
  by_cases g1 : n < 0
  · go_enter Try.func7, Try.ntmps7
    go_wp2_with (go_at_call 12; refine (alive_true _).mono ?_; rintro e w1 ⟨rfl, h⟩)
    go_ret
    exact ⟨rfl, h⟩
  by_cases g2 : 10 < n
  · go_enter Try.func7, Try.ntmps7
    go_wp2_with (go_at_call 12; refine (alive_true _).mono ?_; rintro e w1 ⟨rfl, h⟩)
    go_ret
    exact ⟨rfl, h⟩
  by_cases g3 : more < 1
  · go_enter Try.func7, Try.ntmps7
    go_wp2_with (go_at_call 12; refine (alive_true _).mono ?_; rintro e w1 ⟨rfl, h⟩)
    go_ret
    exact ⟨rfl, h⟩
  by_cases g4 : 30 < more
  · go_enter Try.func7, Try.ntmps7
    go_wp2_with (go_at_call 12; refine (alive_true _).mono ?_; rintro e w1 ⟨rfl, h⟩)
    go_ret
    exact ⟨rfl, h⟩
  obtain ⟨n, rfl⟩ := Int.eq_ofNat_of_zero_le (show 0 ≤ n by omega)
  obtain ⟨more, rfl⟩ := Int.eq_ofNat_of_zero_le (show 0 ≤ more by omega)
  go_enter Try.func7, Try.ntmps7
  go_wp2_with (go_at_call 12; refine (alive_true _).mono ?_; rintro e w1 ⟨rfl, h⟩)
  refine (iNew 40 (by omega) (by omega) h h.size).mono ?_
  rintro e w2 ⟨B, rfl, h2⟩
  replace h2 := Lib.hid h2
  go_wp2_with fail
  refine (iStop n (q_stop fa 40 n) (by omega) (by omega) h2.out).mono ?_
  rintro e w3 ⟨rfl, h3⟩
  replace h3 := Lib.hid h3
  clear h2 h
  go_wp2_with fail
  go_slots
  go_loopw [6] (fun i wr => ∃ j : Nat, j ≤ n + 1 ∧ i = .int .i64 j ∧ DIn w.heap.size w wr B (dks fa 40 n (min j n) (decide (n < j)))) (fun i _ => n + 1 - (intOf i).toNat)
  case atStart => exact ⟨0, Nat.zero_le _, rfl, by simpa using h3.out⟩
  case round =>
    obtain ⟨j, hj, rfl, hd⟩ := hrel
    replace hd := Lib.hid hd
    clear h3
    by_cases hlt : j ≤ n
    · go_wp2_with fail
      refine (fill_any [97] wr).mono ?_
      rintro e w4 ⟨rfl, b4⟩
      have h4 := Lib.hid (hd.out.more b4)
      clear b4 hd
      go_wp2_with fail
      obtain ⟨x, q⟩ : ∃ x, dwrite (dks fa 40 n (min j n) (decide (n < j))) j fa = (dks fa 40 n (min (j + 1) n) (decide (n < j + 1)), x) := by
        rw [decide_eq_false (show ¬ n < j by omega), Nat.min_eq_left hlt]
        by_cases hjn : j < n
        · rw [decide_eq_false (show ¬ n < j + 1 by omega), Nat.min_eq_left (by omega)]
          exact ⟨0, q_write fa (fill_length _) 40 n j (by omega) hjn⟩
        · obtain rfl : j = n := by omega
          rw [decide_eq_true (show j < j + 1 by omega), Nat.min_eq_right (by omega)]
          exact ⟨10, q_dies fa 40 j j fa (fill_length _) (by omega)⟩
      refine (iWrite j fa q (by simp only [dks, run_length]; omega) h4.out).mono ?_
      rintro e w5 ⟨rfl, h5⟩
      replace h5 := Lib.hid h5
      clear q
      go_wp2
      go_roundw
      case rel => exact ⟨j + 1, by omega, by go_num, h5.out⟩
      case measure => simp [intOf]; omega
    · obtain rfl : j = n + 1 := by omega
      rw [decide_eq_true (show n < n + 1 by omega), Nat.min_eq_right (by omega)] at hd
      go_wp2_with fail
      refine (iDead hd.out).mono ?_
      rintro e w6 ⟨rfl, rfl⟩
      rw [show (dks fa 40 n n true).dead = true from rfl]
      go_wp2_with fail
      refine (iCrash none 0 [] (q_crash fa 40 n n true) (fun j hj => by simp at hj) (by simp) hd.out).mono ?_
      rintro e w8 ⟨rfl, h8⟩
      replace h8 := Lib.hid h8
      clear hd
      go_wp2_with fail
      go_slots
      go_loopw [7] (fun i wr => ∃ k : Nat, k ≤ more ∧ i = .int .i64 k ∧ DIn w.heap.size w wr B (dkw fb 40 k)) (fun i _ => more - (intOf i).toNat)
      case atStart => exact ⟨0, Nat.zero_le _, rfl, h8.out⟩
      case round =>
        obtain ⟨k, hk, rfl, hd2⟩ := hrel
        replace hd2 := Lib.hid hd2
        clear h8
        by_cases hlt2 : k < more
        · go_wp2_with fail
          refine (fill_any [98] _).mono ?_
          rintro e w4 ⟨rfl, b4⟩
          have h4 := Lib.hid (hd2.out.more b4)
          clear b4 hd2
          go_wp2_with fail
          refine (iWrite k fb (q_go fb (fill_length _) 40 k (by omega)) (by simp only [dkw, run_length]; omega) h4.out).mono ?_
          rintro e w5 ⟨rfl, h5⟩
          replace h5 := Lib.hid h5
          go_wp2_with fail
          refine (iDead h5.out).mono ?_
          rintro e w6 ⟨rfl, rfl⟩
          rw [show (dkw fb 40 (k + 1)).dead = false from rfl]
          go_wp2
          go_roundw
          case rel => exact ⟨k + 1, hlt2, by go_num, h5.out⟩
          case measure => simp [intOf]; omega
        · obtain rfl : k = more := by omega
          go_wp2_with fail
          refine (iPending hd2.out).mono ?_
          rintro e w7 ⟨rfl, rfl⟩
          rw [show (dkw fb 40 k).pend.length = k from run_length _ _]
          go_wp2_with fail
          refine (iSync (d' := _) (x := 0) rfl hd2.out).mono ?_
          rintro e w9 ⟨rfl, h9⟩
          replace h9 := Lib.hid h9
          go_wp2_with fail
          refine (iPending h9.out).mono ?_
          rintro e w7 ⟨rfl, rfl⟩
          rw [show ((([] : List (Nat × List UInt8)).length : Nat) : Int) = 0 from rfl]
          go_wp2
          go_ret
          exact ⟨rfl, h9.out.was.1⟩
end Go.Proofs.Ytnphpnbliigfbaa
