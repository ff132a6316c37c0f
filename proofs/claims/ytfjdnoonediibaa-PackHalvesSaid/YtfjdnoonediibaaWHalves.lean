/- test -/
import Derived.Test.YtfjdnoonediibaaI1
import Derived.Test.YtfjdnoonediibaaP1
namespace Go.Proofs.Ytfjdnoonediibaa
open Go.RowKit

theorem packHalves_walk (v : Int) (w : World) (w0 : (Lit.int .i64 v).wf = true) :
    Calls Try.prog 6 #[.int .i64 v] w fun e w' => e = .returned (.bool true) ∧ Below w.heap.size w w' := by
  by_cases h1 : v < 0
  · go_enter Try.func6, Try.ntmps6
    go_wp2_with (go_at_call 10; refine (alive_true _).mono ?_; rintro e w1 ⟨rfl, h⟩)
    go_ret
    exact ⟨rfl, h⟩
  by_cases h2 : 4294967295 < v
  · go_enter Try.func6, Try.ntmps6
    go_wp2_with (go_at_call 10; refine (alive_true _).mono ?_; rintro e w1 ⟨rfl, h⟩)
    go_ret
    exact ⟨rfl, h⟩
  obtain ⟨n, rfl⟩ := Int.eq_ofNat_of_zero_le (show 0 ≤ v by omega)
  have q1 : wput 4 n [] false = (be 2 (n / 65536) ++ be 2 (n % 65536), false) := by rw [wput4 n _ (by omega), be4_split]; rfl
  have q2 := rnum2 (n / 65536) (be 2 (n % 65536)) (by omega)
  have q3 := rnum2 (n % 65536) [] (by omega)
  rw [List.append_nil] at q3
  have hz : (mk (be 2 (n / 65536) ++ be 2 (n % 65536))).size = 4 := by rw [mk_size, List.length_append, be_length, be_length]
  have hand : bits .and .i64 (n : Int) 65535 = (n : Int) % 65536 := bits_mask .i64 62 (by decide) (fun n a b => by rw [IntKind.wrap_i64]; omega) 16 (by decide) _ (by omega) (by omega)
  generalize be 2 (n / 65536) ++ be 2 (n % 65536) = b at *
  generalize be 2 (n % 65536) = c at *
  have Q1 := Lib.hid q1
  have Q2 := Lib.hid q2
  have Q3 := Lib.hid q3
  clear q1 q2 q3
  go_enter Try.func6, Try.ntmps6
  go_wp2_with (go_at_call 10; refine (alive_true _).mono ?_; rintro e w1 ⟨rfl, h⟩)
  refine (iLong n Q1.out (by simp) (WIn.new w1)).mono ?_
  rintro e w3 ⟨rfl, h3⟩
  replace h3 := Lib.hid h3
  go_wp2_with fail
  refine (iDone h3.out).mono ?_
  rintro e w5 ⟨rfl, rfl⟩
  have e1 : dones b false = b := rfl
  rw [e1]
  clear e1
  go_wp2_with fail
  refine (iFrom (l := b) h3.out.was.1 h3.out.was.2).mono ?_
  rintro e w5 ⟨R, rfl, h5⟩
  replace h5 := Lib.hid h5
  go_wp2_with fail
  refine (jNum Q2.out h5.out).mono ?_
  rintro e w6 ⟨rfl, h6⟩
  replace h6 := Lib.hid h6
  go_wp2_with fail
  refine (jNum Q3.out h6.out).mono ?_
  rintro e w7 ⟨rfl, h7⟩
  replace h7 := Lib.hid h7
  go_wp2_with fail
  refine (jEnd h7.out).mono ?_
  rintro e w8 ⟨rfl, h8⟩
  replace h8 := Lib.hid h8
  go_wp2
  go_ret
  exact ⟨rfl, h.trans (h8.out.2.2.1.mono h.size)⟩
end Go.Proofs.Ytfjdnoonediibaa
