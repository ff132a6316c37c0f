/- test -/
import Derived.Test.YtfjdnoonediibaaI1
import Derived.Test.YtfjdnoonediibaaP1
namespace Go.Proofs.Ytfjdnoonediibaa
open Go.RowKit

theorem packCuts_walk (s : ByteArray) (n k : Int) (w : World) (w0 : s.size ≤ 140737488351232) (w1 : (Lit.int .i64 n).wf = true) (w2 : (Lit.int .i64 k).wf = true) :
    Calls Try.prog 3 #[.string s, .int .i64 n, .int .i64 k] w fun e w' => e = .returned (.bool true) ∧ Below w.heap.size w w' := by
  by_cases h1 : (s.size : Int) < 1
  · go_enter Try.func3, Try.ntmps3
    go_wp2_with (go_at_call 10; refine (alive_true _).mono ?_; rintro e w1 ⟨rfl, h⟩)
    go_ret
    exact ⟨rfl, h⟩
  by_cases h2 : 200 < (s.size : Int)
  · go_enter Try.func3, Try.ntmps3
    go_wp2_with (go_at_call 10; refine (alive_true _).mono ?_; rintro e w1 ⟨rfl, h⟩)
    go_ret
    exact ⟨rfl, h⟩
  by_cases h3 : n < 0
  · go_enter Try.func3, Try.ntmps3
    go_wp2_with (go_at_call 10; refine (alive_true _).mono ?_; rintro e w1 ⟨rfl, h⟩)
    go_ret
    exact ⟨rfl, h⟩
  by_cases h4 : 65535 < n
  · go_enter Try.func3, Try.ntmps3
    go_wp2_with (go_at_call 10; refine (alive_true _).mono ?_; rintro e w1 ⟨rfl, h⟩)
    go_ret
    exact ⟨rfl, h⟩
  obtain ⟨n, rfl⟩ := Int.eq_ofNat_of_zero_le (show 0 ≤ n by omega)
  obtain ⟨l, hl⟩ : ∃ l, l = s.data.toList := ⟨_, rfl⟩
  have hsz : l.length = s.size := by rw [hl, size_toList]
  obtain ⟨b, hb⟩ : ∃ b, b = be 2 n ++ be 2 l.length ++ l := ⟨_, rfl⟩
  have hbl : (mk b).size = 4 + s.size := by rw [mk_size, hb]; simp [be_length, hsz]; omega
  have q1 : wput 2 n [] false = (be 2 n, false) := by rw [wput2 n _ (by omega)]; rfl
  have q2 : wtext s.data.toList (be 2 n) false = (b, false) := by rw [← hl, wtext_ok _ _ (by omega), hb]
  obtain ⟨m, hm, hml⟩ := modfix k (4 + (s.size : Int)) (by omega) (by omega)
  have hcut := cut_bad n l (by omega) (by omega) m (by omega)
  rw [← hb] at hcut
  obtain ⟨x, l1, b1, l2, q3, q4⟩ := hcut
  have Q1 := Lib.hid q1
  have Q2 := Lib.hid q2
  have Q3 := Lib.hid q3
  have Q4 := Lib.hid q4
  have hle : m ≤ (mk b).size := by omega
  clear q1 q2 q3 q4 hb hl
  go_enter Try.func3, Try.ntmps3
  go_wp2_with (go_at_call 10; refine (alive_true _).mono ?_; rintro e w1 ⟨rfl, h⟩)
  refine (iNum n Q1.out (by simp) (WIn.new w1)).mono ?_
  rintro e w3 ⟨rfl, h3⟩
  replace h3 := Lib.hid h3
  go_wp2_with fail
  refine (iText s Q2.out (by rw [be_length]; omega) h3.out).mono ?_
  rintro e w4 ⟨rfl, h4⟩
  replace h4 := Lib.hid h4
  go_wp2_with fail
  refine (iDone h4.out).mono ?_
  rintro e w5 ⟨rfl, rfl⟩
  have e1 : dones b false = b := rfl
  rw [e1]
  clear e1
  go_wp2_with fail
  rw [mk_take]
  refine (iFrom (l := b.take m) h4.out.was.1 h4.out.was.2).mono ?_
  rintro e w5 ⟨R, rfl, h5⟩
  replace h5 := Lib.hid h5
  go_wp2_with fail
  refine (jNum Q3.out h5.out).mono ?_
  rintro e w6 ⟨rfl, h6⟩
  replace h6 := Lib.hid h6
  go_wp2_with fail
  refine (jText Q4.out h6.out).mono ?_
  rintro e w7 ⟨rfl, h7⟩
  replace h7 := Lib.hid h7
  go_wp2_with fail
  refine (jBad h7.out).mono ?_
  rintro e w8 ⟨rfl, rfl⟩
  go_wp2
  go_ret
  exact ⟨rfl, h.trans (h7.out.2.2.1.mono h.size)⟩
end Go.Proofs.Ytfjdnoonediibaa
