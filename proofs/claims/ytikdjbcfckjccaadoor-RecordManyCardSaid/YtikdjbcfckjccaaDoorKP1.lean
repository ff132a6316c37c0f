/- Plain facts on numbers and texts as bytes: what was written is read. No condition. -/
import Derived.Test.YtikdjbcfckjccaaDoorKT3
import Derived.Test.YtikdjbcfckjccaaDoorKR2
namespace Go.Proofs.YtikdjbcfckjccaaDoor
open Go.RowKit

theorem be_length : ∀ n x, (be n x).length = n
  | 0, _ => rfl
  | n + 1, x => by rw [be, List.length_cons, be_length n x]
theorem val_be2 (x : Nat) (h : x < 65536) : val (be 2 x) = x := by
  simp [val, be]; omega
theorem val_be4 (x : Nat) (h : x < 4294967296) : val (be 4 x) = x := by
  simp [val, be]; omega
theorem rnum2 (x : Nat) (l : List UInt8) (h : x < 65536) : rnum 2 (be 2 x ++ l) false = (x, l, false) := by
  have hl : (be 2 x).length = 2 := be_length 2 x
  have : ¬ (false = true ∨ (be 2 x ++ l).length < 2) := by rw [List.length_append, hl]; simp
  rw [rnum, if_neg this, List.take_append_of_le_length (by omega), List.take_of_length_le (by omega), val_be2 x h, List.drop_append_of_le_length (by omega), List.drop_of_length_le (by omega)]
  rfl
theorem rnum4 (x : Nat) (l : List UInt8) (h : x < 4294967296) : rnum 4 (be 4 x ++ l) false = (x, l, false) := by
  have hl : (be 4 x).length = 4 := be_length 4 x
  have : ¬ (false = true ∨ (be 4 x ++ l).length < 4) := by rw [List.length_append, hl]; simp
  rw [rnum, if_neg this, List.take_append_of_le_length (by omega), List.take_of_length_le (by omega), val_be4 x h, List.drop_append_of_le_length (by omega), List.drop_of_length_le (by omega)]
  rfl
theorem rtext_be (s l : List UInt8) (h : s.length < 65536) : rtext (be 2 s.length ++ (s ++ l)) false = (s, l, false) := by
  rw [rtext, rnum2 _ _ h]
  have : ¬ (false = true ∨ (s ++ l).length < s.length) := by rw [List.length_append]; simp
  rw [rcut, if_neg this]
  simp
theorem rtext_bad (l : List UInt8) : rtext l true = ([], l, true) := by simp [rtext, rnum, rcut]
theorem rnum_bad (n : Nat) (l : List UInt8) : rnum n l true = (0, l, true) := by simp [rnum]
theorem rnum_short (n : Nat) (l : List UInt8) (h : l.length < n) : rnum n l false = (0, l, true) := by simp [rnum, h]
theorem rtext_short (l : List UInt8) (h : l.length < 2) : rtext l false = ([], l, true) := by
  rw [rtext, rnum_short 2 l h]
  simp [rcut]
theorem wput2 (x : Nat) (xs : List UInt8) (h : x < 65536) : wput 2 x xs false = (xs ++ be 2 x, false) := by
  rw [wput_yes (by simp; omega)]; simp
theorem wput4 (x : Nat) (xs : List UInt8) (h : x < 4294967296) : wput 4 x xs false = (xs ++ be 4 x, false) := by
  rw [wput_yes (by simp; omega)]; simp
theorem wtext_ok (s xs : List UInt8) (h : s.length < 65536) : wtext s xs false = (xs ++ be 2 s.length ++ s, false) := by
  rw [wtext, if_neg (by simp; omega)]

theorem be4_split (x : Nat) : be 4 x = be 2 (x / 65536) ++ be 2 (x % 65536) := by
  simp only [be, List.cons_append, List.nil_append, List.cons.injEq, and_true]
  refine ⟨?_, ?_, ?_, ?_⟩ <;> apply UInt8.toNat.inj <;> simp only [UInt8.toNat_ofNat'] <;> omega

/-- '(k%n + n) % n' lies from 0 to below n. -/
theorem modfix (k n : Int) (h0 : 0 < n) (h1 : n ≤ 4611686018427387904) : ∃ m : Nat, (wrap64 (k.tmod n + n)).tmod n = m ∧ (m : Int) < n := by
  have a := Int.tmod_lt_of_pos k h0
  have b := Int.lt_tmod_of_pos k h0
  have e : wrap64 (k.tmod n + n) = k.tmod n + n := IntWalk.wrap64_in _ (by omega)
  rw [e, Int.tmod_eq_emod_of_nonneg (by omega)]
  have c := Int.emod_nonneg (k.tmod n + n) (show n ≠ 0 by omega)
  have d := Int.emod_lt_of_pos (k.tmod n + n) h0
  obtain ⟨m, hm⟩ := Int.eq_ofNat_of_zero_le c
  exact ⟨m, hm, by omega⟩

/-- Bytes of which some lack. -/
theorem cut_bad (n : Nat) (s : List UInt8) (hn : n < 65536) (hs : s.length < 65536) (m : Nat) (hm : m < 4 + s.length) :
    ∃ x l b l', rnum 2 ((be 2 n ++ be 2 s.length ++ s).take m) false = (x, l, b) ∧ rtext l b = ([], l', true) := by
  have h2 : (be 2 n).length = 2 := be_length 2 n
  have h3 : (be 2 s.length).length = 2 := be_length 2 _
  by_cases h : m < 2
  · exact ⟨_, _, _, _, rnum_short 2 _ (by simp; omega), rtext_bad _⟩
  · have e1 : (be 2 n ++ be 2 s.length ++ s).take m = be 2 n ++ (be 2 s.length ++ s).take (m - 2) := by
      rw [List.append_assoc, List.take_append, h2, List.take_of_length_le (by omega)]
    rw [e1, rnum2 n _ hn]
    by_cases h' : m < 4
    · exact ⟨_, _, _, _, rfl, rtext_short _ (by simp; omega)⟩
    · have e2 : (be 2 s.length ++ s).take (m - 2) = be 2 s.length ++ s.take (m - 4) := by
        rw [List.take_append, h3, List.take_of_length_le (by omega)]
        congr 2
      rw [e2]
      refine ⟨_, _, _, s.take (m - 4), rfl, ?_⟩
      rw [rtext, rnum2 _ _ hs, rcut, if_pos (by right; simp; omega)]
end Go.Proofs.YtikdjbcfckjccaaDoor
