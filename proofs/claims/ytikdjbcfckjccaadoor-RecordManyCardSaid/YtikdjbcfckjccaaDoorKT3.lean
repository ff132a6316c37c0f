/- test -/
import Derived.Test.YtikdjbcfckjccaaDoorKT2
namespace Go.Proofs.YtikdjbcfckjccaaDoor
open Go.RowKit

/-- What writing a text does to the bytes and the mark. -/
def wtext (s : List UInt8) (xs : List UInt8) (b : Bool) : List UInt8 × Bool := if b = true ∨ 65536 ≤ s.length then (xs, true) else (xs ++ be 2 s.length ++ s, false)

set_option maxHeartbeats 400000 in
theorem wText (B : Nat) (row : Option Nat) (xs : List UInt8) (b : Bool) (s : ByteArray) (w : World) (hs : xs.length + 2 + s.size ≤ 140737488355328) (hw : WAt w B row xs b) :
    Calls Tryd.prog 26 #[.pointer (some ⟨B, 0, none⟩), .string s] w fun e w' => e = .returned (.pointer (some ⟨B, 0, none⟩)) ∧ WPost w w' B row (wtext s.data.toList xs b).1 (wtext s.data.toList xs b).2 := by
  have hsz := size_toList s
  have C := Lib.hid (wNum B row xs b s.size w (by omega) hw)
  by_cases h : b = true ∨ 65536 ≤ s.data.toList.length
  · have hc : wput 2 s.size xs b = (xs, true) := wput_no (by rcases h with h | h; exact .inl h; right; right; omega)
    rw [hc] at C
    have ht : wtext s.data.toList xs b = (xs, true) := if_pos h
    rw [ht]
    clear hc ht h
    go_enter Tryd.func26, Tryd.ntmps26
    go_wp2_with fail
    refine C.out.mono ?_
    rintro e w1 ⟨rfl, row1, ⟨v, rfl, hb, hown⟩, hchg, hrk⟩
    have c1 : w1.cell? ⟨B, 1, none⟩ = some (.bool true) := cell_of hb rfl
    have fin : WPost w w1 B row xs true := ⟨v.ownBlock, ⟨v, rfl, hb, hown⟩, hchg, hrk⟩
    clear hchg hrk hown hw
    go_wp2
    go_ret
    exact ⟨rfl, fin⟩
  · obtain ⟨i, hi, hz0, hz1, hz2⟩ := info_parts Tryd.infoU8
    have hc : wput 2 s.size xs b = (xs ++ be 2 s.size, false) := by
      rw [wput_yes]
      · simp
      · intro h'
        rcases h' with h' | h' | h'
        · exact h (.inl h')
        · omega
        · exact h (.inr (by omega))
    rw [hc] at C
    have ht : wtext s.data.toList xs b = (xs ++ be 2 s.size ++ s.data.toList, false) := by rw [← hsz]; exact if_neg h
    rw [ht]
    clear hc ht
    go_enter Tryd.func26, Tryd.ntmps26
    go_wp2_with fail
    refine C.out.mono ?_
    rintro e w1 ⟨rfl, row1, ⟨v, rfl, hb, hown⟩, hchg, hrk⟩
    have c1 : w1.cell? ⟨B, 1, none⟩ = some (.bool false) := cell_of hb rfl
    have c0 : w1.cell? ⟨B, 0, none⟩ = some v := cell_of hb rfl
    have hl : (xs ++ be 2 s.size).length = xs.length + 2 := by simp [be]
    have HH := Lib.hid hl
    clear hl
    go_wp2_with (at_builtin; refine wpList_append_own_string' rfl (.tmp 25) (.tmp 26) 44 9 rfl 0 5 i Tryd.underlying44 Tryd.underlying9 hi hz0 hz1 hz2 v _ _ rfl hown s rfl (by have := HH.out; unfold maxLen; omega) (by have := HH.out; omega) (Nat.zero_le _) ?_; intro v' w' hown' hgrow hrow; obtain ⟨⟨ao', m', cap', rfl⟩, _, hc0', _, hf0'⟩ := WAt.ahead hb hown (Chg.refl _ _) hown' hgrow; have fin := WPost.trans hchg hrk (WAt.stored (ys := s.data.toList) hb hown (Chg.refl _ _) hown' hgrow hrow); clear hown' hgrow hrow)
    go_ret
    exact ⟨rfl, fin⟩
theorem wDone_ok (B : Nat) (row : Option Nat) (xs : List UInt8) (w : World) (hw : WAt w B row xs false) :
    Calls Tryd.prog 29 #[.pointer (some ⟨B, 0, none⟩)] w fun e w' => e = .returned (.tuple #[.string ⟨xs.toArray⟩, .bool true]) ∧ w = w' := by
  obtain ⟨v, rfl, hb, hown⟩ := hw
  have c1 : w.cell? ⟨B, 1, none⟩ = some (.bool false) := cell_of hb rfl
  have c0 : w.cell? ⟨B, 0, none⟩ = some v := cell_of hb rfl
  have hconv := run_string_own (P := Tryd.prog) 44 9 Tryd.underlying44 Tryd.underlying5 Tryd.underlying9 hown
  go_enter Tryd.func29, Tryd.ntmps29
  go_wp2
  go_ret2
  exact ⟨rfl, rfl⟩
theorem wDone_bad (B : Nat) (row : Option Nat) (xs : List UInt8) (w : World) (hw : WAt w B row xs true) :
    Calls Tryd.prog 29 #[.pointer (some ⟨B, 0, none⟩)] w fun e w' => e = .returned (.tuple #[.string ByteArray.empty, .bool false]) ∧ w = w' := by
  obtain ⟨v, rfl, hb, hown⟩ := hw
  have c1 : w.cell? ⟨B, 1, none⟩ = some (.bool true) := cell_of hb rfl
  go_enter Tryd.func29, Tryd.ntmps29
  go_wp2
  go_ret2
  exact ⟨rfl, rfl⟩
end Go.Proofs.YtikdjbcfckjccaaDoor
