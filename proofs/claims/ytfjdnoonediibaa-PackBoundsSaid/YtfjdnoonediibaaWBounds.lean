/- test -/
import Derived.Test.YtfjdnoonediibaaI2
import Derived.Test.YtfjdnoonediibaaP1
namespace Go.Proofs.Ytfjdnoonediibaa
open Go.RowKit

theorem bounds_0 (k : Int) (w : World) (hm : (wrap64 (k.tmod 8 + 8)).tmod 8 = ((0 : Nat) : Int)) :
    Calls Try.prog 5 #[.int .i64 k] w fun e w' => e = .returned (.bool true) ∧ Below w.heap.size w w' := by
  have q1 : wput 2 (0) [] false = ([0, 0], false) := by decide
  have q2 : wput 4 (0) [] false = ([0, 0, 0, 0], false) := by decide
  have q3 : wput 2 1 [0, 0] false = ([0, 0, 0, 1], false) := by decide
  replace q1 := Lib.hid q1
  replace q2 := Lib.hid q2
  replace q3 := Lib.hid q3
  go_enter Try.func5, Try.ntmps5
  go_wp2_with (go_at_call 10; refine (alive_true _).mono ?_; rintro e w1 ⟨rfl, h⟩)
  refine (kNum (0) q1.out (by simp) (W2.new _ _ _ _ (by simp) rfl rfl)).mono ?_
  rintro e w3 ⟨rfl, h3⟩
  replace h3 := Lib.hid h3.swap
  go_wp2_with fail
  refine (kLong (0) q2.out (by simp) h3.out).mono ?_
  rintro e w4 ⟨rfl, h4⟩
  replace h4 := Lib.hid h4.swap
  go_wp2_with fail
  refine (kDone h4.out).mono ?_
  rintro e w5 ⟨rfl, rfl⟩
  go_wp2_with fail
  refine (kDone h4.out.swap).mono ?_
  rintro e w5 ⟨rfl, rfl⟩
  go_wp2_with fail
  refine (kNum 1 q3.out (by simp) h4.out).mono ?_
  rintro e w6 ⟨rfl, h6⟩
  replace h6 := Lib.hid h6
  go_wp2_with fail
  refine (kDone h6.out).mono ?_
  rintro e w5 ⟨rfl, rfl⟩
  go_wp2
  go_ret
  refine ⟨rfl, h.trans (Below.trans ?_ (h6.out.was.1.mono (by have := h.size; simp; omega)))⟩
  exact (Below.refl _ _).alloc (by have := h.size; omega) _
theorem bounds_1 (k : Int) (w : World) (hm : (wrap64 (k.tmod 8 + 8)).tmod 8 = ((1 : Nat) : Int)) :
    Calls Try.prog 5 #[.int .i64 k] w fun e w' => e = .returned (.bool true) ∧ Below w.heap.size w w' := by
  have q1 : wput 2 (65535) [] false = ([255, 255], false) := by decide
  have q2 : wput 4 (65535) [] false = ([0, 0, 255, 255], false) := by decide
  have q3 : wput 2 1 [255, 255] false = ([255, 255, 0, 1], false) := by decide
  replace q1 := Lib.hid q1
  replace q2 := Lib.hid q2
  replace q3 := Lib.hid q3
  go_enter Try.func5, Try.ntmps5
  go_wp2_with (go_at_call 10; refine (alive_true _).mono ?_; rintro e w1 ⟨rfl, h⟩)
  refine (kNum (65535) q1.out (by simp) (W2.new _ _ _ _ (by simp) rfl rfl)).mono ?_
  rintro e w3 ⟨rfl, h3⟩
  replace h3 := Lib.hid h3.swap
  go_wp2_with fail
  refine (kLong (65535) q2.out (by simp) h3.out).mono ?_
  rintro e w4 ⟨rfl, h4⟩
  replace h4 := Lib.hid h4.swap
  go_wp2_with fail
  refine (kDone h4.out).mono ?_
  rintro e w5 ⟨rfl, rfl⟩
  go_wp2_with fail
  refine (kDone h4.out.swap).mono ?_
  rintro e w5 ⟨rfl, rfl⟩
  go_wp2_with fail
  refine (kNum 1 q3.out (by simp) h4.out).mono ?_
  rintro e w6 ⟨rfl, h6⟩
  replace h6 := Lib.hid h6
  go_wp2_with fail
  refine (kDone h6.out).mono ?_
  rintro e w5 ⟨rfl, rfl⟩
  go_wp2
  go_ret
  refine ⟨rfl, h.trans (Below.trans ?_ (h6.out.was.1.mono (by have := h.size; simp; omega)))⟩
  exact (Below.refl _ _).alloc (by have := h.size; omega) _
theorem bounds_2 (k : Int) (w : World) (hm : (wrap64 (k.tmod 8 + 8)).tmod 8 = ((2 : Nat) : Int)) :
    Calls Try.prog 5 #[.int .i64 k] w fun e w' => e = .returned (.bool true) ∧ Below w.heap.size w w' := by
  have q1 : wput 2 (65536) [] false = ([], true) := by decide
  have q2 : wput 4 (65536) [] false = ([0, 1, 0, 0], false) := by decide
  have q3 : wput 2 1 [] true = ([], true) := by decide
  replace q1 := Lib.hid q1
  replace q2 := Lib.hid q2
  replace q3 := Lib.hid q3
  go_enter Try.func5, Try.ntmps5
  go_wp2_with (go_at_call 10; refine (alive_true _).mono ?_; rintro e w1 ⟨rfl, h⟩)
  refine (kNum (65536) q1.out (by simp) (W2.new _ _ _ _ (by simp) rfl rfl)).mono ?_
  rintro e w3 ⟨rfl, h3⟩
  replace h3 := Lib.hid h3.swap
  go_wp2_with fail
  refine (kLong (65536) q2.out (by simp) h3.out).mono ?_
  rintro e w4 ⟨rfl, h4⟩
  replace h4 := Lib.hid h4.swap
  go_wp2_with fail
  refine (kDone h4.out).mono ?_
  rintro e w5 ⟨rfl, rfl⟩
  go_wp2_with fail
  refine (kDone h4.out.swap).mono ?_
  rintro e w5 ⟨rfl, rfl⟩
  go_wp2_with fail
  refine (kNum 1 q3.out (by simp) h4.out).mono ?_
  rintro e w6 ⟨rfl, h6⟩
  replace h6 := Lib.hid h6
  go_wp2_with fail
  refine (kDone h6.out).mono ?_
  rintro e w5 ⟨rfl, rfl⟩
  go_wp2
  go_ret
  refine ⟨rfl, h.trans (Below.trans ?_ (h6.out.was.1.mono (by have := h.size; simp; omega)))⟩
  exact (Below.refl _ _).alloc (by have := h.size; omega) _
theorem bounds_3 (k : Int) (w : World) (hm : (wrap64 (k.tmod 8 + 8)).tmod 8 = ((3 : Nat) : Int)) :
    Calls Try.prog 5 #[.int .i64 k] w fun e w' => e = .returned (.bool true) ∧ Below w.heap.size w w' := by
  have q1 : wput 2 (-1) [] false = ([], true) := by decide
  have q2 : wput 4 (-1) [] false = ([], true) := by decide
  have q3 : wput 2 1 [] true = ([], true) := by decide
  replace q1 := Lib.hid q1
  replace q2 := Lib.hid q2
  replace q3 := Lib.hid q3
  go_enter Try.func5, Try.ntmps5
  go_wp2_with (go_at_call 10; refine (alive_true _).mono ?_; rintro e w1 ⟨rfl, h⟩)
  refine (kNum (-1) q1.out (by simp) (W2.new _ _ _ _ (by simp) rfl rfl)).mono ?_
  rintro e w3 ⟨rfl, h3⟩
  replace h3 := Lib.hid h3.swap
  go_wp2_with fail
  refine (kLong (-1) q2.out (by simp) h3.out).mono ?_
  rintro e w4 ⟨rfl, h4⟩
  replace h4 := Lib.hid h4.swap
  go_wp2_with fail
  refine (kDone h4.out).mono ?_
  rintro e w5 ⟨rfl, rfl⟩
  go_wp2_with fail
  refine (kDone h4.out.swap).mono ?_
  rintro e w5 ⟨rfl, rfl⟩
  go_wp2_with fail
  refine (kNum 1 q3.out (by simp) h4.out).mono ?_
  rintro e w6 ⟨rfl, h6⟩
  replace h6 := Lib.hid h6
  go_wp2_with fail
  refine (kDone h6.out).mono ?_
  rintro e w5 ⟨rfl, rfl⟩
  go_wp2
  go_ret
  refine ⟨rfl, h.trans (Below.trans ?_ (h6.out.was.1.mono (by have := h.size; simp; omega)))⟩
  exact (Below.refl _ _).alloc (by have := h.size; omega) _
theorem bounds_4 (k : Int) (w : World) (hm : (wrap64 (k.tmod 8 + 8)).tmod 8 = ((4 : Nat) : Int)) :
    Calls Try.prog 5 #[.int .i64 k] w fun e w' => e = .returned (.bool true) ∧ Below w.heap.size w w' := by
  have q1 : wput 2 (4294967295) [] false = ([], true) := by decide
  have q2 : wput 4 (4294967295) [] false = ([255, 255, 255, 255], false) := by decide
  have q3 : wput 2 1 [] true = ([], true) := by decide
  replace q1 := Lib.hid q1
  replace q2 := Lib.hid q2
  replace q3 := Lib.hid q3
  go_enter Try.func5, Try.ntmps5
  go_wp2_with (go_at_call 10; refine (alive_true _).mono ?_; rintro e w1 ⟨rfl, h⟩)
  refine (kNum (4294967295) q1.out (by simp) (W2.new _ _ _ _ (by simp) rfl rfl)).mono ?_
  rintro e w3 ⟨rfl, h3⟩
  replace h3 := Lib.hid h3.swap
  go_wp2_with fail
  refine (kLong (4294967295) q2.out (by simp) h3.out).mono ?_
  rintro e w4 ⟨rfl, h4⟩
  replace h4 := Lib.hid h4.swap
  go_wp2_with fail
  refine (kDone h4.out).mono ?_
  rintro e w5 ⟨rfl, rfl⟩
  go_wp2_with fail
  refine (kDone h4.out.swap).mono ?_
  rintro e w5 ⟨rfl, rfl⟩
  go_wp2_with fail
  refine (kNum 1 q3.out (by simp) h4.out).mono ?_
  rintro e w6 ⟨rfl, h6⟩
  replace h6 := Lib.hid h6
  go_wp2_with fail
  refine (kDone h6.out).mono ?_
  rintro e w5 ⟨rfl, rfl⟩
  go_wp2
  go_ret
  refine ⟨rfl, h.trans (Below.trans ?_ (h6.out.was.1.mono (by have := h.size; simp; omega)))⟩
  exact (Below.refl _ _).alloc (by have := h.size; omega) _
theorem bounds_5 (k : Int) (w : World) (hm : (wrap64 (k.tmod 8 + 8)).tmod 8 = ((5 : Nat) : Int)) :
    Calls Try.prog 5 #[.int .i64 k] w fun e w' => e = .returned (.bool true) ∧ Below w.heap.size w w' := by
  have q1 : wput 2 (4294967296) [] false = ([], true) := by decide
  have q2 : wput 4 (4294967296) [] false = ([], true) := by decide
  have q3 : wput 2 1 [] true = ([], true) := by decide
  replace q1 := Lib.hid q1
  replace q2 := Lib.hid q2
  replace q3 := Lib.hid q3
  go_enter Try.func5, Try.ntmps5
  go_wp2_with (go_at_call 10; refine (alive_true _).mono ?_; rintro e w1 ⟨rfl, h⟩)
  refine (kNum (4294967296) q1.out (by simp) (W2.new _ _ _ _ (by simp) rfl rfl)).mono ?_
  rintro e w3 ⟨rfl, h3⟩
  replace h3 := Lib.hid h3.swap
  go_wp2_with fail
  refine (kLong (4294967296) q2.out (by simp) h3.out).mono ?_
  rintro e w4 ⟨rfl, h4⟩
  replace h4 := Lib.hid h4.swap
  go_wp2_with fail
  refine (kDone h4.out).mono ?_
  rintro e w5 ⟨rfl, rfl⟩
  go_wp2_with fail
  refine (kDone h4.out.swap).mono ?_
  rintro e w5 ⟨rfl, rfl⟩
  go_wp2_with fail
  refine (kNum 1 q3.out (by simp) h4.out).mono ?_
  rintro e w6 ⟨rfl, h6⟩
  replace h6 := Lib.hid h6
  go_wp2_with fail
  refine (kDone h6.out).mono ?_
  rintro e w5 ⟨rfl, rfl⟩
  go_wp2
  go_ret
  refine ⟨rfl, h.trans (Below.trans ?_ (h6.out.was.1.mono (by have := h.size; simp; omega)))⟩
  exact (Below.refl _ _).alloc (by have := h.size; omega) _
theorem bounds_6 (k : Int) (w : World) (hm : (wrap64 (k.tmod 8 + 8)).tmod 8 = ((6 : Nat) : Int)) :
    Calls Try.prog 5 #[.int .i64 k] w fun e w' => e = .returned (.bool true) ∧ Below w.heap.size w w' := by
  have q1 : wput 2 (4611686018427387904) [] false = ([], true) := by decide
  have q2 : wput 4 (4611686018427387904) [] false = ([], true) := by decide
  have q3 : wput 2 1 [] true = ([], true) := by decide
  replace q1 := Lib.hid q1
  replace q2 := Lib.hid q2
  replace q3 := Lib.hid q3
  go_enter Try.func5, Try.ntmps5
  go_wp2_with (go_at_call 10; refine (alive_true _).mono ?_; rintro e w1 ⟨rfl, h⟩)
  refine (kNum (4611686018427387904) q1.out (by simp) (W2.new _ _ _ _ (by simp) rfl rfl)).mono ?_
  rintro e w3 ⟨rfl, h3⟩
  replace h3 := Lib.hid h3.swap
  go_wp2_with fail
  refine (kLong (4611686018427387904) q2.out (by simp) h3.out).mono ?_
  rintro e w4 ⟨rfl, h4⟩
  replace h4 := Lib.hid h4.swap
  go_wp2_with fail
  refine (kDone h4.out).mono ?_
  rintro e w5 ⟨rfl, rfl⟩
  go_wp2_with fail
  refine (kDone h4.out.swap).mono ?_
  rintro e w5 ⟨rfl, rfl⟩
  go_wp2_with fail
  refine (kNum 1 q3.out (by simp) h4.out).mono ?_
  rintro e w6 ⟨rfl, h6⟩
  replace h6 := Lib.hid h6
  go_wp2_with fail
  refine (kDone h6.out).mono ?_
  rintro e w5 ⟨rfl, rfl⟩
  go_wp2
  go_ret
  refine ⟨rfl, h.trans (Below.trans ?_ (h6.out.was.1.mono (by have := h.size; simp; omega)))⟩
  exact (Below.refl _ _).alloc (by have := h.size; omega) _
theorem bounds_7 (k : Int) (w : World) (hm : (wrap64 (k.tmod 8 + 8)).tmod 8 = ((7 : Nat) : Int)) :
    Calls Try.prog 5 #[.int .i64 k] w fun e w' => e = .returned (.bool true) ∧ Below w.heap.size w w' := by
  have q1 : wput 2 (-9223372036854775808) [] false = ([], true) := by decide
  have q2 : wput 4 (-9223372036854775808) [] false = ([], true) := by decide
  have q3 : wput 2 1 [] true = ([], true) := by decide
  replace q1 := Lib.hid q1
  replace q2 := Lib.hid q2
  replace q3 := Lib.hid q3
  go_enter Try.func5, Try.ntmps5
  go_wp2_with (go_at_call 10; refine (alive_true _).mono ?_; rintro e w1 ⟨rfl, h⟩)
  refine (kNum (-9223372036854775808) q1.out (by simp) (W2.new _ _ _ _ (by simp) rfl rfl)).mono ?_
  rintro e w3 ⟨rfl, h3⟩
  replace h3 := Lib.hid h3.swap
  go_wp2_with fail
  refine (kLong (-9223372036854775808) q2.out (by simp) h3.out).mono ?_
  rintro e w4 ⟨rfl, h4⟩
  replace h4 := Lib.hid h4.swap
  go_wp2_with fail
  refine (kDone h4.out).mono ?_
  rintro e w5 ⟨rfl, rfl⟩
  go_wp2_with fail
  refine (kDone h4.out.swap).mono ?_
  rintro e w5 ⟨rfl, rfl⟩
  go_wp2_with fail
  refine (kNum 1 q3.out (by simp) h4.out).mono ?_
  rintro e w6 ⟨rfl, h6⟩
  replace h6 := Lib.hid h6
  go_wp2_with fail
  refine (kDone h6.out).mono ?_
  rintro e w5 ⟨rfl, rfl⟩
  go_wp2
  go_ret
  refine ⟨rfl, h.trans (Below.trans ?_ (h6.out.was.1.mono (by have := h.size; simp; omega)))⟩
  exact (Below.refl _ _).alloc (by have := h.size; omega) _

theorem packBounds_walk (k : Int) (w : World) (w0 : (Lit.int .i64 k).wf = true) :
    Calls Try.prog 5 #[.int .i64 k] w fun e w' => e = .returned (.bool true) ∧ Below w.heap.size w w' := by
  obtain ⟨m, hm, hml⟩ := modfix k 8 (by omega) (by omega)
  rcases (show m = 0 ∨ m = 1 ∨ m = 2 ∨ m = 3 ∨ m = 4 ∨ m = 5 ∨ m = 6 ∨ m = 7 by omega) with rfl | rfl | rfl | rfl | rfl | rfl | rfl | rfl
  · exact bounds_0 k w hm
  · exact bounds_1 k w hm
  · exact bounds_2 k w hm
  · exact bounds_3 k w hm
  · exact bounds_4 k w hm
  · exact bounds_5 k w hm
  · exact bounds_6 k w hm
  · exact bounds_7 k w hm
end Go.Proofs.Ytfjdnoonediibaa
