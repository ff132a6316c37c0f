/- Batch of package frame, whatever is asked for. No condition. -/
import Derived.Test.YtofejnhnnmnfpaaDoorFBno
namespace Go.Proofs.YtofejnhnnmnfpaaDoor.Fr
set_option maxRecDepth 100000
open Go.RowKit

def batOk (e i : Int) (L : List (List UInt8)) : Bool := recsOkB L && !L.isEmpty && decide (1 ≤ e) && decide (e ≤ 4294967295) && decide (0 ≤ i) && decide (i + cnt L ≤ 65536)
def batD (e i : Int) (L : List (List UInt8)) : List (List UInt8) := if batOk e i L then secs e.toNat i.toNat true (stream L) else []
theorem batOk_iff {e i : Int} {L : List (List UInt8)} : batOk e i L = true ↔ recsOk L ∧ L ≠ [] ∧ 1 ≤ e ∧ e ≤ 4294967295 ∧ 0 ≤ i ∧ i + cnt L ≤ 65536 := by
  simp [batOk, recsOkB_iff, and_assoc]
theorem cnt_pos {L : List (List UInt8)} (h : L ≠ []) : 1 ≤ cnt L := by
  have := List.length_pos_iff.2 (stream_ne h)
  unfold cnt
  omega
theorem bytes_none {L : List (List UInt8)} (h : recsOkB L = false ∨ L = []) : bytesOf L = [] := by
  rcases h with h | h
  · rw [bytesOf, h]; rfl
  · rw [h]; rfl
theorem batch_all (e i : Int) (a : Option Addr) (c : Nat) (l : List (List UInt8)) (w : World) (hl : (stream l).length ≤ 1000000) (ha : TAt w a l) :
    Calls Tryd.prog 34 #[.int .i64 e, .int .i64 i, .slice a l.length c] w fun en w' => ∃ v, en = .returned (.tuple #[v, .bool (batOk e i l)]) ∧ w'.ownsRow w.heap.size 9 1 v (batD e i l).length (scells (batD e i l)) ∧ Below w.heap.size w w' := by
  have none_ : batOk e i l = false → ∀ w' : World, ∃ v : Value, Ending.returned (.tuple #[.slice none 0 0, .bool false]) = .returned (.tuple #[v, .bool (batOk e i l)]) ∧ w'.ownsRow w.heap.size 9 1 v (batD e i l).length (scells (batD e i l)) := fun h w' => by
    have hD : batD e i l = [] := by simp [batD, h]
    exact ⟨_, by rw [h], by rw [hD]; exact World.ownsRow_nil _ _ _ _⟩
  by_cases h : batOk e i l = true
  · obtain ⟨h1, h2, h3, h4, h5, h6⟩ := batOk_iff.1 h
    obtain ⟨e', rfl⟩ := Int.eq_ofNat_of_zero_le (show 0 ≤ e by omega)
    obtain ⟨i', rfl⟩ := Int.eq_ofNat_of_zero_le h5
    refine (batch_yes e' i' a c l w hl ha h1 h2 (by omega) (by omega) (by omega)).mono ?_
    rintro en w' ⟨v, rfl, ho, hb⟩
    refine ⟨v, by rw [h], ?_, hb⟩
    rw [batD, if_pos h, Int.toNat_natCast, Int.toNat_natCast]
    exact ho
  · have hf : batOk e i l = false := Bool.eq_false_iff.2 h
    have fin : ∀ (en : Ending) (w' : World), (en = .returned (.tuple #[.slice none 0 0, .bool false]) ∧ Below w.heap.size w w') → ∃ v : Value, en = .returned (.tuple #[v, .bool (batOk e i l)]) ∧ w'.ownsRow w.heap.size 9 1 v (batD e i l).length (scells (batD e i l)) ∧ Below w.heap.size w w' := fun en w' ⟨he, hb⟩ => by
      obtain ⟨v, q1, q2⟩ := none_ hf w'
      exact ⟨v, he.trans q1, q2, hb⟩
    by_cases h1 : recsOkB l = true ∧ l ≠ []
    · have hok := recsOkB_iff.1 h1.1
      by_cases h2 : 1 ≤ e ∧ e ≤ 4294967295 ∧ 0 ≤ i ∧ i ≤ 65535
      · obtain ⟨e', rfl⟩ := Int.eq_ofNat_of_zero_le (show 0 ≤ e by omega)
        obtain ⟨i', rfl⟩ := Int.eq_ofNat_of_zero_le (show 0 ≤ i by omega)
        refine (batch_over e' i' a c l w hl ha hok h1.2 (by omega) (by omega) (by omega) ?_).mono fin
        have : ¬ ((i' : Int) + cnt l ≤ 65536) := fun h6 => h (batOk_iff.2 ⟨hok, h1.2, by omega, by omega, by omega, h6⟩)
        omega
      · refine (batch_bad e i a c l w hl ha hok h1.2 (fun p => ?_)).mono fin
        rw [Bool.eq_false_iff]
        intro hs
        have := secOk_iff.1 hs
        exact h2 ⟨this.1, this.2.1, this.2.2.1, this.2.2.2.1⟩
    · refine (batch_none e i a c l w (by omega) ha (bytes_none ?_)).mono fin
      by_cases h3 : recsOkB l = true
      · exact .inr (Classical.byContradiction fun h4 => h1 ⟨h3, h4⟩)
      · exact .inl (Bool.eq_false_iff.2 h3)
end Go.Proofs.YtofejnhnnmnfpaaDoor.Fr
