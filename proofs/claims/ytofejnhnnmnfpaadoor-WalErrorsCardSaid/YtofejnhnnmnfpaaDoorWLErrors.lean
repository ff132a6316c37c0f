/- The walk of the law WalErrors. No condition but the table of spaces. -/
import Derived.Test.YtofejnhnnmnfpaaDoorWlV
namespace Go.Proofs.YtofejnhnnmnfpaaDoor
set_option maxRecDepth 100000
open Go.RowKit
theorem wf_i64 {n : Int} (h : (Lit.int .i64 n).wf = true) : -9223372036854775808 ≤ n ∧ n ≤ 9223372036854775807 := by
  simp [Lit.wf] at h
  have e : IntKind.i64.min = -9223372036854775808 := by decide
  have e2 : IntKind.i64.max = 9223372036854775807 := by decide
  omega
set_option maxHeartbeats 1600000 in
theorem walErrors_walk (first secs epoch : Int) (w : World) (hT : Rc.Tab w) (q0 : (Lit.int .i64 first).wf = true) (q1 : (Lit.int .i64 secs).wf = true) (q2 : (Lit.int .i64 epoch).wf = true) :
    Calls Tryd.prog 5 #[.int .i64 first, .int .i64 secs, .int .i64 epoch] w fun e w' => e = .returned (.bool true) ∧ Below w.heap.size w w' := by
  obtain ⟨f0, f1⟩ := wf_i64 q0
  have r1 := wf_i64 q1
  have r2 := wf_i64 q2
  clear q0 q1 q2 r1 r2
  by_cases t1 : 1 ≤ secs
  case neg =>
    go_enter Tryd.func5, Tryd.ntmps5
    go_wp2_with fail
    refine (alive_true w hT).mono ?_
    rintro e w1 ⟨rfl, b1⟩
    replace b1 := Lib.hid b1
    go_wp2_with fail
    refine (Dq.iNew (H := w.heap.size) (w0 := w) 100 (by omega) (by omega) b1.out b1.out.size).mono ?_
    rintro e w2 ⟨B, rfl, hD⟩
    replace hD := Lib.hid hD
    go_wp2_with fail
    refine (xOpen_arg hD.out ⟨by omega, by omega⟩ (by have hl : (Dq.dnew 100).safe.length = 100 := by simp [Dq.dnew]
                                                      rw [hl]; omega)).mono ?_
    rintro e w3 ⟨rfl, rfl⟩
    have hfin := Lib.hid hD.out.was.1
    clear hD b1
    go_wp2
    go_ret
    exact ⟨rfl, hfin.out⟩
  by_cases t2 : secs ≤ 4000
  case neg =>
    go_enter Tryd.func5, Tryd.ntmps5
    go_wp2_with fail
    refine (alive_true w hT).mono ?_
    rintro e w1 ⟨rfl, b1⟩
    replace b1 := Lib.hid b1
    go_wp2_with fail
    refine (Dq.iNew (H := w.heap.size) (w0 := w) 100 (by omega) (by omega) b1.out b1.out.size).mono ?_
    rintro e w2 ⟨B, rfl, hD⟩
    replace hD := Lib.hid hD
    go_wp2_with fail
    refine (xOpen_arg hD.out ⟨by omega, by omega⟩ (by have hl : (Dq.dnew 100).safe.length = 100 := by simp [Dq.dnew]
                                                      rw [hl]; omega)).mono ?_
    rintro e w3 ⟨rfl, rfl⟩
    have hfin := Lib.hid hD.out.was.1
    clear hD b1
    go_wp2
    go_ret
    exact ⟨rfl, hfin.out⟩
  by_cases t3 : 0 ≤ first
  case neg =>
    go_enter Tryd.func5, Tryd.ntmps5
    go_wp2_with fail
    refine (alive_true w hT).mono ?_
    rintro e w1 ⟨rfl, b1⟩
    replace b1 := Lib.hid b1
    go_wp2_with fail
    refine (Dq.iNew (H := w.heap.size) (w0 := w) 100 (by omega) (by omega) b1.out b1.out.size).mono ?_
    rintro e w2 ⟨B, rfl, hD⟩
    replace hD := Lib.hid hD
    go_wp2_with fail
    refine (xOpen_arg hD.out ⟨by omega, by omega⟩ (by have hl : (Dq.dnew 100).safe.length = 100 := by simp [Dq.dnew]
                                                      rw [hl]; omega)).mono ?_
    rintro e w3 ⟨rfl, rfl⟩
    have hfin := Lib.hid hD.out.was.1
    clear hD b1
    go_wp2
    go_ret
    exact ⟨rfl, hfin.out⟩
  by_cases t5 : secs ≤ 100
  case neg =>
    by_cases t4 : first ≤ 0
    case neg =>
      go_enter Tryd.func5, Tryd.ntmps5
      go_wp2_with fail
      refine (alive_true w hT).mono ?_
      rintro e w1 ⟨rfl, b1⟩
      replace b1 := Lib.hid b1
      go_wp2_with fail
      refine (Dq.iNew (H := w.heap.size) (w0 := w) 100 (by omega) (by omega) b1.out b1.out.size).mono ?_
      rintro e w2 ⟨B, rfl, hD⟩
      replace hD := Lib.hid hD
      go_wp2_with fail
      refine (xOpen_arg hD.out ⟨by omega, by omega⟩ (by have hl : (Dq.dnew 100).safe.length = 100 := by simp [Dq.dnew]
                                                        rw [hl]; omega)).mono ?_
      rintro e w3 ⟨rfl, rfl⟩
      have hfin := Lib.hid hD.out.was.1
      clear hD b1
      go_wp2
      go_ret
      exact ⟨rfl, hfin.out⟩
    go_enter Tryd.func5, Tryd.ntmps5
    go_wp2_with fail
    refine (alive_true w hT).mono ?_
    rintro e w1 ⟨rfl, b1⟩
    replace b1 := Lib.hid b1
    go_wp2_with fail
    refine (Dq.iNew (H := w.heap.size) (w0 := w) 100 (by omega) (by omega) b1.out b1.out.size).mono ?_
    rintro e w2 ⟨B, rfl, hD⟩
    replace hD := Lib.hid hD
    go_wp2_with fail
    refine (xOpen_arg hD.out ⟨by omega, by omega⟩ (by have hl : (Dq.dnew 100).safe.length = 100 := by simp [Dq.dnew]
                                                      rw [hl]; omega)).mono ?_
    rintro e w3 ⟨rfl, rfl⟩
    have hfin := Lib.hid hD.out.was.1
    clear hD b1
    go_wp2
    go_ret
    exact ⟨rfl, hfin.out⟩
  by_cases t4 : first ≤ 100 - secs
  case neg =>
    go_enter Tryd.func5, Tryd.ntmps5
    go_wp2_with fail
    refine (alive_true w hT).mono ?_
    rintro e w1 ⟨rfl, b1⟩
    replace b1 := Lib.hid b1
    go_wp2_with fail
    refine (Dq.iNew (H := w.heap.size) (w0 := w) 100 (by omega) (by omega) b1.out b1.out.size).mono ?_
    rintro e w2 ⟨B, rfl, hD⟩
    replace hD := Lib.hid hD
    go_wp2_with fail
    refine (xOpen_arg hD.out ⟨by omega, by omega⟩ (by have hl : (Dq.dnew 100).safe.length = 100 := by simp [Dq.dnew]
                                                      rw [hl]; omega)).mono ?_
    rintro e w3 ⟨rfl, rfl⟩
    have hfin := Lib.hid hD.out.was.1
    clear hD b1
    go_wp2
    go_ret
    exact ⟨rfl, hfin.out⟩
  by_cases t6 : 1 ≤ epoch
  case neg =>
    go_enter Tryd.func5, Tryd.ntmps5
    go_wp2_with fail
    refine (alive_true w hT).mono ?_
    rintro e w1 ⟨rfl, b1⟩
    replace b1 := Lib.hid b1
    go_wp2_with fail
    refine (Dq.iNew (H := w.heap.size) (w0 := w) 100 (by omega) (by omega) b1.out b1.out.size).mono ?_
    rintro e w2 ⟨B, rfl, hD⟩
    replace hD := Lib.hid hD
    go_wp2_with fail
    refine (xOpen_arg hD.out ⟨by omega, by omega⟩ (by have hl : (Dq.dnew 100).safe.length = 100 := by simp [Dq.dnew]
                                                      rw [hl]; omega)).mono ?_
    rintro e w3 ⟨rfl, rfl⟩
    have hfin := Lib.hid hD.out.was.1
    clear hD b1
    go_wp2
    go_ret
    exact ⟨rfl, hfin.out⟩
  by_cases t7 : epoch ≤ 4294967295
  case neg =>
    go_enter Tryd.func5, Tryd.ntmps5
    go_wp2_with fail
    refine (alive_true w hT).mono ?_
    rintro e w1 ⟨rfl, b1⟩
    replace b1 := Lib.hid b1
    go_wp2_with fail
    refine (Dq.iNew (H := w.heap.size) (w0 := w) 100 (by omega) (by omega) b1.out b1.out.size).mono ?_
    rintro e w2 ⟨B, rfl, hD⟩
    replace hD := Lib.hid hD
    go_wp2_with fail
    refine (xOpen_arg hD.out ⟨by omega, by omega⟩ (by have hl : (Dq.dnew 100).safe.length = 100 := by simp [Dq.dnew]
                                                      rw [hl]; omega)).mono ?_
    rintro e w3 ⟨rfl, rfl⟩
    have hfin := Lib.hid hD.out.was.1
    clear hD b1
    go_wp2
    go_ret
    exact ⟨rfl, hfin.out⟩
  obtain ⟨f, rfl⟩ := Int.eq_ofNat_of_zero_le t3
  obtain ⟨s, rfl⟩ := Int.eq_ofNat_of_zero_le (show 0 ≤ secs by omega)
  obtain ⟨ep, rfl⟩ := Int.eq_ofNat_of_zero_le (show 0 ≤ epoch by omega)
  have hon := on_new 100 f s ep (by omega) (by omega) (by omega) (by omega)
  replace hon := Lib.hid hon
  go_enter Tryd.func5, Tryd.ntmps5
  go_wp2_with fail
  refine (alive_true w hT).mono ?_
  rintro e w1 ⟨rfl, b1⟩
  replace b1 := Lib.hid b1
  go_wp2_with fail
  refine (Dq.iNew (H := w.heap.size) (w0 := w) 100 (by omega) (by omega) b1.out b1.out.size).mono ?_
  rintro e w2 ⟨B, rfl, hD⟩
  have hT2 := hT.more hD.was.1
  replace hD := Lib.hid hD
  go_wp2_with fail
  refine (sOpen hT2 hD.out hon.out rfl (by show 0 < ep; omega)).mono ?_
  rintro e w3 ⟨G, rfl, hS, b3⟩
  replace hS := Lib.hid hS
  clear b3 hD b1 hT2 hon
  go_wp2_with fail
  refine (sLast hS.out).mono ?_
  rintro e w4 ⟨rfl, hz⟩
  obtain rfl := hz.symm
  clear hz
  go_wp2_with fail
  refine (sLeft hS.out (by show s ≤ 4000; omega) (by simp) (by simp [Fr.stream])).mono ?_
  rintro e w5 ⟨rfl, b5⟩
  have hS5 := Lib.hid (hS.out.more b5)
  clear b5 hS
  have hn0 : lcnt ([] : List (List UInt8)) = 0 := rfl
  simp only [hn0]
  clear hn0
  go_wp2_with fail
  refine (sEpoch hS5.out).mono ?_
  rintro e w6 ⟨rfl, hz⟩
  obtain rfl := hz.symm
  clear hz
  have hfin := Lib.hid hS5.out.was.1
  go_wp2
  go_ret
  exact ⟨rfl, hfin.out⟩
end Go.Proofs.YtofejnhnnmnfpaaDoor
