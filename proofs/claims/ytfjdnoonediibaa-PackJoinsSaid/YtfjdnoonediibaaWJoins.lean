/- test -/
import Derived.Test.YtfjdnoonediibaaI2
import Derived.Test.YtfjdnoonediibaaP1
namespace Go.Proofs.Ytfjdnoonediibaa
open Go.RowKit

theorem mk_append (a b : List UInt8) : mk a ++ mk b = mk (a ++ b) := by
  apply ByteArray.ext
  apply Array.ext'
  simp [mk]

theorem packJoins_walk (a b : Int) (s t : ByteArray) (w : World) (w0 : (Lit.int .i64 a).wf = true) (w1 : (Lit.int .i64 b).wf = true) (w2 : s.size ≤ 140737488351232) (w3 : t.size ≤ 140737488351232) :
    Calls Try.prog 9 #[.int .i64 a, .int .i64 b, .string s, .string t] w fun e w' => e = .returned (.bool true) ∧ Below w.heap.size w w' := by
  by_cases hg : a < 0 ∨ 65535 < a ∨ b < 0 ∨ 4294967295 < b ∨ 200 < (s.size : Int) + t.size
  · have hw : IntKind.i64.wrap ((s.size : Int) + t.size) = (s.size : Int) + t.size := IntWalk.i64_in _ (by omega)
    by_cases h1 : a < 0
    · go_enter Try.func9, Try.ntmps9
      go_wp2_with (go_at_call 10; refine (alive_true _).mono ?_; rintro e w1 ⟨rfl, h⟩)
      go_ret
      exact ⟨rfl, h⟩
    by_cases h2 : 65535 < a
    · go_enter Try.func9, Try.ntmps9
      go_wp2_with (go_at_call 10; refine (alive_true _).mono ?_; rintro e w1 ⟨rfl, h⟩)
      go_ret
      exact ⟨rfl, h⟩
    by_cases h3 : b < 0
    · go_enter Try.func9, Try.ntmps9
      go_wp2_with (go_at_call 10; refine (alive_true _).mono ?_; rintro e w1 ⟨rfl, h⟩)
      go_ret
      exact ⟨rfl, h⟩
    by_cases h4 : 4294967295 < b
    · go_enter Try.func9, Try.ntmps9
      go_wp2_with (go_at_call 10; refine (alive_true _).mono ?_; rintro e w1 ⟨rfl, h⟩)
      go_ret
      exact ⟨rfl, h⟩
    have h5 : 200 < (s.size : Int) + t.size := by omega
    go_enter Try.func9, Try.ntmps9
    go_wp2_with (go_at_call 10; refine (alive_true _).mono ?_; rintro e w1 ⟨rfl, h⟩)
    go_ret
    exact ⟨rfl, h⟩
  obtain ⟨a, rfl⟩ := Int.eq_ofNat_of_zero_le (show 0 ≤ a by omega)
  obtain ⟨b, rfl⟩ := Int.eq_ofNat_of_zero_le (show 0 ≤ b by omega)
  obtain ⟨ha, hb, hst⟩ : a ≤ 65535 ∧ b ≤ 4294967295 ∧ s.size + t.size ≤ 200 := by omega
  clear hg
  obtain ⟨p, hp⟩ : ∃ p, p = s.data.toList := ⟨_, rfl⟩
  obtain ⟨q, hq⟩ : ∃ q, q = t.data.toList := ⟨_, rfl⟩
  have hps : p.length = s.size := by rw [hp, size_toList]
  have hqs : q.length = t.size := by rw [hq, size_toList]
  have es : mk p = s := by rw [hp]; exact mk_of s
  have et : mk q = t := by rw [hq]; exact mk_of t
  obtain ⟨x, hx⟩ : ∃ x, x = be 2 a ++ be 2 p.length ++ p := ⟨_, rfl⟩
  obtain ⟨y, hy⟩ : ∃ y, y = be 4 b ++ be 2 q.length ++ q := ⟨_, rfl⟩
  have q1 : wput 2 a [] false = (be 2 a, false) := by rw [wput2 a _ (by omega)]; rfl
  have q2 : wtext s.data.toList (be 2 a) false = (x, false) := by rw [← hp, wtext_ok _ _ (by omega), hx]
  have q3 : wput 4 b [] false = (be 4 b, false) := by rw [wput4 b _ (by omega)]; rfl
  have q4 : wtext t.data.toList (be 4 b) false = (y, false) := by rw [← hq, wtext_ok _ _ (by omega), hy]
  have r1 : rnum 2 (x ++ y) false = (a, be 2 p.length ++ (p ++ y), false) := by
    rw [hx, show be 2 a ++ be 2 p.length ++ p ++ y = be 2 a ++ (be 2 p.length ++ (p ++ y)) by simp]; exact rnum2 a _ (by omega)
  have r2 : rtext (be 2 p.length ++ (p ++ y)) false = (p, y, false) := rtext_be p y (by omega)
  have r3 : rnum 4 y false = (b, be 2 q.length ++ (q ++ []), false) := by
    rw [hy, show be 4 b ++ be 2 q.length ++ q = be 4 b ++ (be 2 q.length ++ (q ++ [])) by simp]; exact rnum4 b _ (by omega)
  have r4 : rtext (be 2 q.length ++ (q ++ [])) false = (q, [], false) := rtext_be q [] (by omega)
  have zx : (mk x).size = 4 + s.size := by rw [mk_size, hx]; simp [be_length, hps]; omega
  have zy : (mk y).size = 6 + t.size := by rw [mk_size, hy]; simp [be_length, hqs]; omega
  have hne : (be 2 q.length ++ (q ++ [])).isEmpty = false := by simp [be]
  generalize be 2 p.length ++ (p ++ y) = l1 at *
  generalize be 2 q.length ++ (q ++ []) = l2 at *
  clear hx hy
  replace q1 := Lib.hid q1
  replace q2 := Lib.hid q2
  replace q3 := Lib.hid q3
  replace q4 := Lib.hid q4
  replace r1 := Lib.hid r1
  replace r2 := Lib.hid r2
  replace r3 := Lib.hid r3
  replace r4 := Lib.hid r4
  clear hp hq hps hqs
  replace es := Lib.hid es
  replace et := Lib.hid et
  go_enter Try.func9, Try.ntmps9
  go_wp2_with (go_at_call 10; refine (alive_true _).mono ?_; rintro e w1 ⟨rfl, h⟩)
  refine (kNum a q1.out (by simp) (W2.new _ _ _ _ rfl rfl rfl)).mono ?_
  rintro e w3 ⟨rfl, h3⟩
  replace h3 := Lib.hid h3
  go_wp2_with fail
  refine (kText s q2.out (by rw [be_length]; omega) h3.out).mono ?_
  rintro e w4 ⟨rfl, h4⟩
  replace h4 := Lib.hid h4.swap
  go_wp2_with fail
  refine (kLong b q3.out (by simp) h4.out).mono ?_
  rintro e w5 ⟨rfl, h5⟩
  replace h5 := Lib.hid h5
  go_wp2_with fail
  refine (kText t q4.out (by rw [be_length]; omega) h5.out).mono ?_
  rintro e w6 ⟨rfl, h6⟩
  replace h6 := Lib.hid h6
  go_wp2_with fail
  refine (kDone h6.out.swap).mono ?_
  rintro e w7 ⟨rfl, rfl⟩
  go_wp2_with fail
  refine (kDone h6.out).mono ?_
  rintro e w7 ⟨rfl, rfl⟩
  have e1 : dones x false = x := rfl
  have e2 : dones y false = y := rfl
  rw [e1, e2]
  clear e1 e2
  go_wp2_with fail
  rw [mk_append]
  refine (iFrom (l := x ++ y) h6.out.was.1 h6.out.was.2).mono ?_
  rintro e w7 ⟨R, rfl, h7⟩
  replace h7 := Lib.hid h7
  go_wp2_with fail
  refine (jNum r1.out h7.out).mono ?_
  rintro e w8 ⟨rfl, h8⟩
  replace h8 := Lib.hid h8
  go_wp2_with fail
  refine (jText r2.out h8.out).mono ?_
  rintro e w9 ⟨rfl, h9⟩
  replace h9 := Lib.hid h9
  rw [es.out]
  go_wp2_with fail
  refine (jLong r3.out h9.out).mono ?_
  rintro e w10 ⟨rfl, h10⟩
  replace h10 := Lib.hid h10
  go_wp2_with fail
  refine (jEnd h10.out).mono ?_
  rintro e w11 ⟨rfl, h11⟩
  replace h11 := Lib.hid h11
  go_wp2_with fail
  refine (jText r4.out h11.out).mono ?_
  rintro e w12 ⟨rfl, h12⟩
  replace h12 := Lib.hid h12
  rw [et.out]
  go_wp2_with fail
  refine (jEnd h12.out).mono ?_
  rintro e w13 ⟨rfl, h13⟩
  replace h13 := Lib.hid h13
  go_wp2
  go_ret
  exact ⟨rfl, h.trans (h13.out.2.2.1.mono h.size)⟩
end Go.Proofs.Ytfjdnoonediibaa
