/- The walk of the law RecordNames. No condition but the table of spaces. -/
import Derived.Test.YtikdjbcfckjccaaDoorRecE
namespace Go.Proofs.YtikdjbcfckjccaaDoor
open Go.RowKit
attribute [local go_sem] mk_size mk_append lit_append

theorem nameOf_in (k : Nat) (h0 : 1 ≤ k) (h : k ≤ 7) : (nameOf k).isEmpty = false := by
  rcases (show k = 1 ∨ k = 2 ∨ k = 3 ∨ k = 4 ∨ k = 5 ∨ k = 6 ∨ k = 7 by omega) with rfl | rfl | rfl | rfl | rfl | rfl | rfl <;> rfl
theorem nameOf_out (k : Int) (h : k < 1 ∨ 7 < k) : nameOf k = [] := (nameOf_nil k).2 (by omega)
theorem nameOf_apart (a b : Nat) (h0 : 1 ≤ a) (h1 : 1 ≤ b) (ha : a ≤ 7) (hb : b ≤ 7) (h : a ≠ b) : (nameOf a == nameOf b) = false := by
  rcases (show a = 1 ∨ a = 2 ∨ a = 3 ∨ a = 4 ∨ a = 5 ∨ a = 6 ∨ a = 7 by omega) with rfl | rfl | rfl | rfl | rfl | rfl | rfl <;>
    rcases (show b = 1 ∨ b = 2 ∨ b = 3 ∨ b = 4 ∨ b = 5 ∨ b = 6 ∨ b = 7 by omega) with rfl | rfl | rfl | rfl | rfl | rfl | rfl <;> first | rfl | exact absurd rfl h
theorem name_n (k : Int) (nm : List UInt8) (w : World) (hT : Tab w) (h : nameOf k = nm) : Calls Tryd.prog 15 #[.int .i64 k] w fun e w' => e = .returned (.string (mk nm)) ∧ Below w.heap.size w w' := by
  subst h
  exact name_any k w hT

set_option maxHeartbeats 1600000 in
theorem recordNames_walk (a b : Int) (w : World) (hT : Tab w) (w0 : (Lit.int .i64 a).wf = true) (w1 : (Lit.int .i64 b).wf = true) :
    Calls Tryd.prog 5 #[.int .i64 a, .int .i64 b] w fun e w' => e = .returned (.bool true) ∧ Below w.heap.size w w' := by
  by_cases c1 : a < 1
  · have hn := Lib.hid (nameOf_out a (.inl c1))
    go_enter Tryd.func5, Tryd.ntmps5
    go_wp2_with fail
    refine (alive_true _ hT).mono ?_
    rintro e w2 ⟨rfl, h2⟩
    have hT2 := hT.more h2
    replace h2 := Lib.hid h2
    go_wp2_with fail
    refine (name_n a _ _ hT2 hn.out).mono ?_
    rintro e w3 ⟨rfl, h3⟩
    go_wp2
    go_ret
    exact ⟨rfl, h2.out.trans (h3.mono h2.out.size)⟩
  by_cases c2 : 7 < a
  · have hn := Lib.hid (nameOf_out a (.inr c2))
    go_enter Tryd.func5, Tryd.ntmps5
    go_wp2_with fail
    refine (alive_true _ hT).mono ?_
    rintro e w2 ⟨rfl, h2⟩
    have hT2 := hT.more h2
    replace h2 := Lib.hid h2
    go_wp2_with fail
    refine (name_n a _ _ hT2 hn.out).mono ?_
    rintro e w3 ⟨rfl, h3⟩
    go_wp2
    go_ret
    exact ⟨rfl, h2.out.trans (h3.mono h2.out.size)⟩
  obtain ⟨a, rfl⟩ := Int.eq_ofNat_of_zero_le (show 0 ≤ a by omega)
  have hn1 := nameOf_in a (by omega) (by omega)
  obtain ⟨na, hna⟩ : ∃ na, na = nameOf a := ⟨_, rfl⟩
  obtain ⟨nb, hnb⟩ : ∃ nb, nb = nameOf b := ⟨_, rfl⟩
  by_cases c3 : (a : Int) = b
  · subst c3
    rw [← hna] at hn1
    have hee : ((a : Int) == a) = true := beq_self_eq_true _
    replace hna := Lib.hid hna
    go_enter Tryd.func5, Tryd.ntmps5
    go_wp2_with fail
    refine (alive_true _ hT).mono ?_
    rintro e w2 ⟨rfl, h2⟩
    have hT2 := hT.more h2
    replace h2 := Lib.hid h2
    go_wp2_with fail
    refine (name_n a _ _ hT2 hna.out.symm).mono ?_
    rintro e w3 ⟨rfl, h3⟩
    go_wp2
    go_ret
    exact ⟨rfl, h2.out.trans (h3.mono h2.out.size)⟩
  · have hee : ((a : Int) == b) = false := beq_eq_false_iff_ne.2 c3
    have hap : (na == nb) = false := by
      by_cases d : b < 1 ∨ 7 < b
      · rw [hna, hnb, nameOf_out b d]
        cases h : nameOf a with
        | nil => rw [h] at hn1; cases hn1
        | cons x y => rfl
      · obtain ⟨b, rfl⟩ := Int.eq_ofNat_of_zero_le (show 0 ≤ b by omega)
        rw [hna, hnb]
        exact nameOf_apart a b (by omega) (by omega) (by omega) (by omega) (by omega)
    rw [← hna] at hn1
    replace hna := Lib.hid hna
    replace hnb := Lib.hid hnb
    replace c3 := Lib.hid c3
    go_enter Tryd.func5, Tryd.ntmps5
    go_wp2_with fail
    refine (alive_true _ hT).mono ?_
    rintro e w2 ⟨rfl, h2⟩
    have hT2 := hT.more h2
    replace h2 := Lib.hid h2
    go_wp2_with fail
    refine (name_n a _ _ hT2 hna.out.symm).mono ?_
    rintro e w3 ⟨rfl, h3⟩
    have hT3 := hT2.more h3
    replace h3 := Lib.hid (h2.out.trans (h3.mono h2.out.size))
    go_wp2_with fail
    refine (name_n a _ _ hT3 hna.out.symm).mono ?_
    rintro e w4 ⟨rfl, h4⟩
    have hT4 := hT3.more h4
    replace h4 := Lib.hid (h3.out.trans (h4.mono h3.out.size))
    go_wp2_with fail
    refine (name_n b _ _ hT4 hnb.out.symm).mono ?_
    rintro e w5 ⟨rfl, h5⟩
    go_wp2
    go_ret
    exact ⟨rfl, h4.out.trans (h5.mono h4.out.size)⟩
end Go.Proofs.YtikdjbcfckjccaaDoor
