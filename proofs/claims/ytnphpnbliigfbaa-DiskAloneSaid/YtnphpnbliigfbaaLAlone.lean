/- The walk of the law DiskAlone. No condition. -/
import Derived.Test.YtnphpnbliigfbaaLd
namespace Go.Proofs.Ytnphpnbliigfbaa
open Go.RowKit

theorem fill_nil : fill [] = zsec := by rw [zsec_eq]; rfl
theorem modfix (k n : Int) (h0 : 0 < n) (h1 : n ≤ 4611686018427387904) : ∃ m : Nat, (wrap64 (k.tmod n + n)).tmod n = m ∧ (m : Int) < n := by
  have a := Int.tmod_lt_of_pos k h0
  have b := Int.lt_tmod_of_pos k h0
  have e : wrap64 (k.tmod n + n) = k.tmod n + n := IntWalk.wrap64_in _ (by omega)
  rw [e, Int.tmod_eq_emod_of_nonneg (by omega)]
  have c := Int.emod_nonneg (k.tmod n + n) (show n ≠ 0 by omega)
  have d := Int.emod_lt_of_pos (k.tmod n + n) h0
  obtain ⟨m, hm⟩ := Int.eq_ofNat_of_zero_le c
  exact ⟨m, hm, by omega⟩

def dal (n k : Nat) (s : List UInt8) : Dk := { safe := List.replicate n zsec, pend := [(k, s)], stops := false, after := 0, dead := false }
theorem q_alone (n k : Nat) (s : List UInt8) (hs : s.length = 64) (h : k < n) : dwrite (dnew n) k s = (dal n k s, 0) := by
  simp [dwrite, dnew, isIn, hs, dal]; omega
theorem r_alone (n k : Nat) (s : List UInt8) (i : Nat) (h : i < n) : dread (dal n k s) i = (if i = k then s else zsec, 0) := by
  have h1 : isIn (dal n k s) i = true := by simp [isIn, dal]; omega
  have h2 : (dal n k s).dead = false := rfl
  have h3 : latest (dal n k s).pend i = if i = k then some s else none := latest_one k s i
  have h4 : (dal n k s).safe.getD i [] = zsec := by simp [dal, h]
  rw [dread, h1, h2, Int.toNat_natCast, h3, h4]
  by_cases e : i = k
  · simp [e]
  · simp [e]

set_option maxHeartbeats 1600000 in
theorem diskAlone_walk (n at_ : Int) (b : ByteArray) (w : World) (w0 : (Lit.int .i64 n).wf = true) (w1 : (Lit.int .i64 at_).wf = true) (w2 : b.size ≤ 140737488351232) :
    Calls Try.prog 8 #[.int .i64 n, .int .i64 at_, .string b] w fun e w' => e = .returned (.bool true) ∧ Below w.heap.size w w' := by
  by_cases g1 : n < 1
  · go_enter Try.func8, Try.ntmps8
    go_wp2_with (go_at_call 12; refine (alive_true _).mono ?_; rintro e w1 ⟨rfl, h⟩)
    go_ret
    exact ⟨rfl, h⟩
  by_cases g2 : 40 < n
  · go_enter Try.func8, Try.ntmps8
    go_wp2_with (go_at_call 12; refine (alive_true _).mono ?_; rintro e w1 ⟨rfl, h⟩)
    go_ret
    exact ⟨rfl, h⟩
  by_cases g3 : 64 < (b.size : Int)
  · go_enter Try.func8, Try.ntmps8
    go_wp2_with (go_at_call 12; refine (alive_true _).mono ?_; rintro e w1 ⟨rfl, h⟩)
    go_ret
    exact ⟨rfl, h⟩
  obtain ⟨n, rfl⟩ := Int.eq_ofNat_of_zero_le (show 0 ≤ n by omega)
  obtain ⟨m, hm, hml⟩ := modfix at_ n (by omega) (by omega)
  obtain ⟨l, rfl⟩ : ∃ l, b = mk l := ⟨b.data.toList, (mk_of b).symm⟩
  have hn1 : 1 ≤ n := by omega
  have hn2 : n ≤ 40 := by omega
  have hmn : m < n := by omega
  go_enter Try.func8, Try.ntmps8
  go_wp2_with (go_at_call 12; refine (alive_true _).mono ?_; rintro e w1 ⟨rfl, h⟩)
  refine (iNew n hn1 (by omega) h h.size).mono ?_
  rintro e w2 ⟨B, rfl, h2⟩
  replace h2 := Lib.hid h2
  go_wp2_with fail
  refine (fill_any l _).mono ?_
  rintro e w4 ⟨rfl, b4⟩
  have h4 := Lib.hid (h2.out.more b4)
  clear b4 h2 h
  go_wp2_with fail
  refine (iWrite m (fill l) (q_alone n m (fill l) (fill_length _) hmn) (by simp [dnew]) h4.out).mono ?_
  rintro e w5 ⟨rfl, h5⟩
  replace h5 := Lib.hid h5
  clear h4
  go_wp2_with fail
  go_slots
  go_loopw [9] (fun i wr => ∃ j : Nat, j ≤ n ∧ i = .int .i64 j ∧ DIn w.heap.size w wr B (dal n m (fill l))) (fun i _ => n - (intOf i).toNat)
  case atStart => exact ⟨0, Nat.zero_le _, rfl, h5.out⟩
  case round =>
    obtain ⟨j, hj, rfl, hd⟩ := hrel
    replace hd := Lib.hid hd
    clear h5
    by_cases hlt : j < n
    · have hr := r_alone n m (fill l) j hlt
      by_cases e : j = m
      · rw [if_pos e] at hr
        have e1 : ((j : Int) == (m : Int)) = true := by rw [beq_iff_eq]; omega
        have e2 : ((j : Int) != (m : Int)) = false := by rw [bne_eq_false_iff_eq]; omega
        clear e
        go_wp2_with fail
        refine (iRead j hr hd.out).mono ?_
        rintro e w6 ⟨rfl, rfl⟩
        go_wp2_with fail
        refine (fill_any l _).mono ?_
        rintro e w7 ⟨rfl, b7⟩
        have h7 := Lib.hid (hd.out.more b7)
        clear b7 hd hr
        go_wp2
        go_roundw
        case rel => exact ⟨j + 1, hlt, by go_num, h7.out⟩
        case measure => simp [intOf]; omega
      · rw [if_neg e] at hr
        have e1 : ((j : Int) == (m : Int)) = false := by rw [beq_eq_false_iff_ne]; omega
        have e2 : ((j : Int) != (m : Int)) = true := by rw [bne_iff_ne]; omega
        clear e
        go_wp2_with fail
        refine (iRead j hr hd.out).mono ?_
        rintro e w6 ⟨rfl, rfl⟩
        go_wp2_with fail
        refine (fill_any [] _).mono ?_
        rintro e w7 ⟨rfl, b7⟩
        rw [fill_nil]
        have h7 := Lib.hid (hd.out.more b7)
        clear b7 hd hr
        go_wp2
        go_roundw
        case rel => exact ⟨j + 1, hlt, by go_num, h7.out⟩
        case measure => simp [intOf]; omega
    · obtain rfl : j = n := by omega
      go_wp2_with fail
      refine (iPending hd.out).mono ?_
      rintro e w7 ⟨rfl, rfl⟩
      rw [show (((dal j m (fill l)).pend.length : Nat) : Int) = 1 from rfl]
      go_wp2_with fail
      refine (iSectors hd.out).mono ?_
      rintro e w7 ⟨rfl, rfl⟩
      rw [show (dal j m (fill l)).safe.length = j by simp [dal]]
      go_wp2
      go_ret
      exact ⟨rfl, hd.out.was.1⟩
end Go.Proofs.Ytnphpnbliigfbaa
