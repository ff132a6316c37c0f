/- The walk of the law DiskEdges. No condition. -/
import Derived.Test.YtnphpnbliigfbaaLd
namespace Go.Proofs.Ytnphpnbliigfbaa
open Go.RowKit

def ded (n m : Nat) (b : Bool) : Dk := { safe := List.replicate n zsec, pend := [(m, List.replicate 64 0)], stops := true, after := 0, dead := b }
theorem e_out (n : Nat) (i : Int) (h : i < 0 ∨ (n : Int) ≤ i) : isIn (dks fx n 1 0 false) i = false := by
  simp [isIn, dks]; omega
theorem e_in (n m : Nat) (h : m < n) : isIn (dks fx n 1 0 false) m = true := by
  simp [isIn, dks]; omega
theorem e_read_out (n : Nat) (i : Int) (h : i < 0 ∨ (n : Int) ≤ i) : dread (dks fx n 1 0 false) i = ([], 12) := by
  rw [dread, e_out n i h]; rfl
theorem e_read_in (n m : Nat) (h : m < n) : ∃ s, dread (dks fx n 1 0 false) m = (s, 0) := ⟨_, by rw [dread, e_in n m h]; rfl⟩
theorem e_write_out (n : Nat) (i : Int) (h : i < 0 ∨ (n : Int) ≤ i) (s : List UInt8) : dwrite (dks fx n 1 0 false) i s = (dks fx n 1 0 false, 12) := by
  rw [dwrite, e_out n i h]; rfl
theorem e_write_bad (n m : Nat) (h : m < n) (s : List UInt8) (hs : s.length ≠ 64) : dwrite (dks fx n 1 0 false) m s = (dks fx n 1 0 false, 1) := by
  rw [dwrite, e_in n m h, if_neg (by simp [dks]), if_neg (by simp), if_pos hs]
theorem e_write_in (n m : Nat) (h : m < n) : dwrite (dks fx n 1 0 false) m (List.replicate 64 0) = (ded n m false, 0) := by
  rw [dwrite, e_in n m h, if_neg (by simp [dks]), if_neg (by simp), if_neg (by simp), if_neg (by simp [dks])]
  simp [dks, ded, run]
theorem e_dies (n m : Nat) (h : 1 ≤ n) : dwrite (ded n m false) 0 fx = (ded n m true, 10) := by
  have h1 : isIn (ded n m false) 0 = true := by simp [isIn, ded]; omega
  have h2 : fx.length = 64 := fill_length _
  rw [dwrite, h1, if_neg (by simp [ded]), if_neg (by simp), if_neg (by simp [h2]), if_pos (by simp [ded])]
  rfl
theorem e_first (n : Nat) (h : 1 ≤ n) : dwrite (dks fx n 1 0 false) 0 fx = (dks fx n 1 1 false, 0) := q_write fx (fill_length _) n 1 0 (by omega) (by omega)

set_option maxRecDepth 10000 in
set_option maxHeartbeats 1600000 in
theorem diskEdges_walk (n at_ size : Int) (w : World) (w0 : (Lit.int .i64 n).wf = true) (w1 : (Lit.int .i64 at_).wf = true) (w2 : (Lit.int .i64 size).wf = true) :
    Calls Try.prog 9 #[.int .i64 n, .int .i64 at_, .int .i64 size] w fun e w' => e = .returned (.bool true) ∧ Below w.heap.size w w' := by
  by_cases g1 : n < 1
  · go_enter Try.func9, Try.ntmps9
    go_wp2_with (go_at_call 12; refine (alive_true _).mono ?_; rintro e w1 ⟨rfl, h⟩)
    go_ret
    exact ⟨rfl, h⟩
  by_cases g2 : 60 < n
  · go_enter Try.func9, Try.ntmps9
    go_wp2_with (go_at_call 12; refine (alive_true _).mono ?_; rintro e w1 ⟨rfl, h⟩)
    go_ret
    exact ⟨rfl, h⟩
  by_cases g3 : size < 0
  · go_enter Try.func9, Try.ntmps9
    go_wp2_with (go_at_call 12; refine (alive_true _).mono ?_; rintro e w1 ⟨rfl, h⟩)
    go_ret
    exact ⟨rfl, h⟩
  by_cases g4 : 200 < size
  · go_enter Try.func9, Try.ntmps9
    go_wp2_with (go_at_call 12; refine (alive_true _).mono ?_; rintro e w1 ⟨rfl, h⟩)
    go_ret
    exact ⟨rfl, h⟩
  obtain ⟨n, rfl⟩ := Int.eq_ofNat_of_zero_le (show 0 ≤ n by omega)
  obtain ⟨size, rfl⟩ := Int.eq_ofNat_of_zero_le (show 0 ≤ size by omega)
  have hn1 : 1 ≤ n := by omega
  have hn2 : n ≤ 60 := by omega
  have hs2 : size ≤ 200 := by omega
  obtain ⟨i, hi, hz0, hz1, hz2⟩ := info_parts Try.infoU8
  by_cases c1 : at_ < 0
  · go_enter Try.func9, Try.ntmps9
    go_wp2_with (go_at_call 12; refine (alive_true _).mono ?_; rintro e w1 ⟨rfl, h⟩)
    refine (iNew n hn1 (by omega) h h.size).mono ?_
    rintro e w2 ⟨B, rfl, h2⟩
    replace h2 := Lib.hid h2
    clear h
    go_wp2_with fail
    refine (iStop 1 (q_stop fx n 1) (by omega) (by omega) h2.out).mono ?_
    rintro e w3 ⟨rfl, h3⟩
    replace h3 := Lib.hid h3
    clear h2
    go_wp2_with (at_make; refine wpList_make_full _ rfl _ _ 35 rfl w3.heap.size 5 i (.int .u8 0) 1 Try.underlying35 hi hz0 hz1 _ _ _ _ size rfl rfl rfl rfl (by rw [hz2]; omega) (by unfold maxLen; omega) (Nat.le_refl _) ?_; intro w4 hown hgrow; have hb := zeros_made hown hgrow; obtain ⟨z, hz⟩ : ∃ z, z = List.replicate size (0 : UInt8) := ⟨_, rfl⟩; have hcv := hb.2; rw [← hz] at hcv; replace hz := Lib.hid hz; have h4 := Lib.hid (h3.out.more hb.1); clear hb hown hgrow h3)
    refine (iRead at_ (e_read_out n at_ (.inl c1)) h4.out).mono ?_
    rintro e w5 ⟨rfl, rfl⟩
    go_wp2_with fail
    refine (iWrite at_ z (e_write_out n at_ (.inl c1) z) (by simp [dks, run_length]) h4.out).mono ?_
    rintro e w6 ⟨rfl, h6⟩
    replace h6 := Lib.hid h6
    clear h4
    go_wp2_with fail
    refine (fill_any [120] _).mono ?_
    rintro e w7 ⟨rfl, b7⟩
    have h7 := Lib.hid (h6.out.more b7)
    clear h6 b7
    go_wp2_with fail
    refine (iWrite 0 fx (e_first n hn1) (by simp [dks, ded, run_length]) h7.out).mono ?_
    rintro e w8 ⟨rfl, h8⟩
    replace h8 := Lib.hid h8
    clear h7
    go_wp2_with fail
    refine (iSectors h8.out).mono ?_
    rintro e w9 ⟨rfl, rfl⟩
    rw [show (dks fx n 1 1 false).safe.length = n by simp [dks, ded]]
    go_wp2
    go_ret
    exact ⟨rfl, h8.out.was.1⟩
  by_cases c2 : (n : Int) ≤ at_
  · go_enter Try.func9, Try.ntmps9
    go_wp2_with (go_at_call 12; refine (alive_true _).mono ?_; rintro e w1 ⟨rfl, h⟩)
    refine (iNew n hn1 (by omega) h h.size).mono ?_
    rintro e w2 ⟨B, rfl, h2⟩
    replace h2 := Lib.hid h2
    clear h
    go_wp2_with fail
    refine (iStop 1 (q_stop fx n 1) (by omega) (by omega) h2.out).mono ?_
    rintro e w3 ⟨rfl, h3⟩
    replace h3 := Lib.hid h3
    clear h2
    go_wp2_with (at_make; refine wpList_make_full _ rfl _ _ 35 rfl w3.heap.size 5 i (.int .u8 0) 1 Try.underlying35 hi hz0 hz1 _ _ _ _ size rfl rfl rfl rfl (by rw [hz2]; omega) (by unfold maxLen; omega) (Nat.le_refl _) ?_; intro w4 hown hgrow; have hb := zeros_made hown hgrow; obtain ⟨z, hz⟩ : ∃ z, z = List.replicate size (0 : UInt8) := ⟨_, rfl⟩; have hcv := hb.2; rw [← hz] at hcv; replace hz := Lib.hid hz; have h4 := Lib.hid (h3.out.more hb.1); clear hb hown hgrow h3)
    refine (iRead at_ (e_read_out n at_ (.inr c2)) h4.out).mono ?_
    rintro e w5 ⟨rfl, rfl⟩
    go_wp2_with fail
    refine (iWrite at_ z (e_write_out n at_ (.inr c2) z) (by simp [dks, run_length]) h4.out).mono ?_
    rintro e w6 ⟨rfl, h6⟩
    replace h6 := Lib.hid h6
    clear h4
    go_wp2_with fail
    refine (fill_any [120] _).mono ?_
    rintro e w7 ⟨rfl, b7⟩
    have h7 := Lib.hid (h6.out.more b7)
    clear h6 b7
    go_wp2_with fail
    refine (iWrite 0 fx (e_first n hn1) (by simp [dks, ded, run_length]) h7.out).mono ?_
    rintro e w8 ⟨rfl, h8⟩
    replace h8 := Lib.hid h8
    clear h7
    go_wp2_with fail
    refine (iSectors h8.out).mono ?_
    rintro e w9 ⟨rfl, rfl⟩
    rw [show (dks fx n 1 1 false).safe.length = n by simp [dks, ded]]
    go_wp2
    go_ret
    exact ⟨rfl, h8.out.was.1⟩
  obtain ⟨m, rfl⟩ := Int.eq_ofNat_of_zero_le (show 0 ≤ at_ by omega)
  obtain ⟨s, hs⟩ := e_read_in n m (by omega)
  replace hs := Lib.hid hs
  by_cases c3 : size = 64
  · have e1 : ((size : Int) == (64 : Int)) = true := by rw [beq_iff_eq]; omega
    have e2 : ((size : Int) != (64 : Int)) = false := by rw [bne_eq_false_iff_eq]; omega
    replace c3 := Lib.hid c3
    go_enter Try.func9, Try.ntmps9
    go_wp2_with (go_at_call 12; refine (alive_true _).mono ?_; rintro e w1 ⟨rfl, h⟩)
    refine (iNew n hn1 (by omega) h h.size).mono ?_
    rintro e w2 ⟨B, rfl, h2⟩
    replace h2 := Lib.hid h2
    clear h
    go_wp2_with fail
    refine (iStop 1 (q_stop fx n 1) (by omega) (by omega) h2.out).mono ?_
    rintro e w3 ⟨rfl, h3⟩
    replace h3 := Lib.hid h3
    clear h2
    go_wp2_with (at_make; refine wpList_make_full _ rfl _ _ 35 rfl w3.heap.size 5 i (.int .u8 0) 1 Try.underlying35 hi hz0 hz1 _ _ _ _ size rfl rfl rfl rfl (by rw [hz2]; omega) (by unfold maxLen; omega) (Nat.le_refl _) ?_; intro w4 hown hgrow; have hb := zeros_made hown hgrow; obtain ⟨z, hz⟩ : ∃ z, z = List.replicate size (0 : UInt8) := ⟨_, rfl⟩; have hcv := hb.2; rw [← hz] at hcv; replace hz := Lib.hid hz; have h4 := Lib.hid (h3.out.more hb.1); clear hb hown hgrow h3)
    refine (iRead m (hs.out) h4.out).mono ?_
    rintro e w5 ⟨rfl, rfl⟩
    go_wp2_with fail
    refine (iWrite m z (show dwrite (dks fx n 1 0 false) m z = (ded n m false, 0) by rw [hz.out, c3.out]; exact e_write_in n m (by omega)) (by simp [dks, run_length]) h4.out).mono ?_
    rintro e w6 ⟨rfl, h6⟩
    replace h6 := Lib.hid h6
    clear h4
    go_wp2_with fail
    refine (fill_any [120] _).mono ?_
    rintro e w7 ⟨rfl, b7⟩
    have h7 := Lib.hid (h6.out.more b7)
    clear h6 b7
    go_wp2_with fail
    refine (iWrite 0 fx (e_dies n m hn1) (by simp [dks, ded, run_length]) h7.out).mono ?_
    rintro e w8 ⟨rfl, h8⟩
    replace h8 := Lib.hid h8
    clear h7
    go_wp2_with fail
    refine (iSectors h8.out).mono ?_
    rintro e w9 ⟨rfl, rfl⟩
    rw [show (ded n m true).safe.length = n by simp [dks, ded]]
    go_wp2
    go_ret
    exact ⟨rfl, h8.out.was.1⟩
  have c4 : ¬ (size : Int) = 64 := by omega
  go_enter Try.func9, Try.ntmps9
  go_wp2_with (go_at_call 12; refine (alive_true _).mono ?_; rintro e w1 ⟨rfl, h⟩)
  refine (iNew n hn1 (by omega) h h.size).mono ?_
  rintro e w2 ⟨B, rfl, h2⟩
  replace h2 := Lib.hid h2
  clear h
  go_wp2_with fail
  refine (iStop 1 (q_stop fx n 1) (by omega) (by omega) h2.out).mono ?_
  rintro e w3 ⟨rfl, h3⟩
  replace h3 := Lib.hid h3
  clear h2
  go_wp2_with (at_make; refine wpList_make_full _ rfl _ _ 35 rfl w3.heap.size 5 i (.int .u8 0) 1 Try.underlying35 hi hz0 hz1 _ _ _ _ size rfl rfl rfl rfl (by rw [hz2]; omega) (by unfold maxLen; omega) (Nat.le_refl _) ?_; intro w4 hown hgrow; have hb := zeros_made hown hgrow; obtain ⟨z, hz⟩ : ∃ z, z = List.replicate size (0 : UInt8) := ⟨_, rfl⟩; have hcv := hb.2; rw [← hz] at hcv; replace hz := Lib.hid hz; have h4 := Lib.hid (h3.out.more hb.1); clear hb hown hgrow h3)
  refine (iRead m (hs.out) h4.out).mono ?_
  rintro e w5 ⟨rfl, rfl⟩
  go_wp2_with fail
  refine (iWrite m z (e_write_bad n m (by omega) z (by rw [hz.out]; simpa using c3)) (by simp [dks, run_length]) h4.out).mono ?_
  rintro e w6 ⟨rfl, h6⟩
  replace h6 := Lib.hid h6
  clear h4
  go_wp2_with fail
  refine (fill_any [120] _).mono ?_
  rintro e w7 ⟨rfl, b7⟩
  have h7 := Lib.hid (h6.out.more b7)
  clear h6 b7
  go_wp2_with fail
  refine (iWrite 0 fx (e_first n hn1) (by simp [dks, ded, run_length]) h7.out).mono ?_
  rintro e w8 ⟨rfl, h8⟩
  replace h8 := Lib.hid h8
  clear h7
  go_wp2_with fail
  refine (iSectors h8.out).mono ?_
  rintro e w9 ⟨rfl, rfl⟩
  rw [show (dks fx n 1 1 false).safe.length = n by simp [dks, ded]]
  go_wp2
  go_ret
  exact ⟨rfl, h8.out.was.1⟩
end Go.Proofs.Ytnphpnbliigfbaa
