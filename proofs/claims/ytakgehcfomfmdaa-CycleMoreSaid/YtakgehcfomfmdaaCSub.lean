/- A rising row within another: plain facts. No condition. -/
import Derived.Test.YtakgehcfomfmdaaCPlain
namespace Go.Proofs.Ytakgehcfomfmdaa
open Go.RowKit

/-- Those of l from the k-th on are not among m's first i. -/
def Sub (l m : List Int) (i k : Nat) : Prop := k ≤ l.length ∧ ∀ z ∈ l.drop k, z ∉ m.take i
theorem Sub.start (l m : List Int) : Sub l m 0 0 := ⟨Nat.zero_le _, fun z _ h => by simp at h⟩
theorem Sub.hit {l m : List Int} {i k : Nat} (h : Sub l m i k) (hl : l.Pairwise (· < ·)) (hi : i < m.length) (hk : k < l.length) (he : l[k] = m[i]) : Sub l m (i + 1) (k + 1) := by
  refine ⟨by omega, fun z hz hm => ?_⟩
  rw [List.take_succ_eq_append_getElem hi] at hm
  have hd := List.drop_eq_getElem_cons hk
  have hp : (l.drop k).Pairwise (· < ·) := hl.sublist (List.drop_sublist _ _)
  rw [hd] at hp
  have h1 := (List.pairwise_cons.1 hp).1 z hz
  rcases List.mem_append.1 hm with h2 | h2
  · exact h.2 z (by rw [hd]; exact List.mem_cons_of_mem _ hz) h2
  · rw [List.mem_singleton.1 h2, ← he] at h1; omega
theorem Sub.miss {l m : List Int} {i k : Nat} (h : Sub l m i k) (hl : l.Pairwise (· < ·)) (hm : m.Pairwise (· < ·)) (hs : ∀ z ∈ l, z ∈ m) (hi : i < m.length) (hne : ∀ hk : k < l.length, l[k] ≠ m[i]) : Sub l m (i + 1) k := by
  refine ⟨h.1, fun z hz hmz => ?_⟩
  rw [List.take_succ_eq_append_getElem hi] at hmz
  rcases List.mem_append.1 hmz with h2 | h2
  · exact h.2 z hz h2
  · have hz2 := List.mem_singleton.1 h2
    have hk : k < l.length := by
      rcases Nat.lt_or_ge k l.length with h3 | h3
      · exact h3
      · rw [List.drop_of_length_le h3] at hz; cases hz
    have hd := List.drop_eq_getElem_cons hk
    have hp : (l.drop k).Pairwise (· < ·) := hl.sublist (List.drop_sublist _ _)
    rw [hd] at hp hz
    have hkm : l[k] ∈ l.drop k := by rw [hd]; exact List.mem_cons_self ..
    have hno := h.2 l[k] hkm
    rcases List.mem_cons.1 hz with e | e
    · exact hne hk (by rw [← e, hz2])
    · have h1 := (List.pairwise_cons.1 hp).1 z e
      have h3 := hs l[k] (List.getElem_mem hk)
      rw [← List.take_append_drop i m] at h3
      rcases List.mem_append.1 h3 with h4 | h4
      · exact hno h4
      · have hpm : (m.drop i).Pairwise (· < ·) := hm.sublist (List.drop_sublist _ _)
        rw [List.drop_eq_getElem_cons hi] at hpm h4
        rcases List.mem_cons.1 h4 with h5 | h5
        · exact hne hk h5
        · have := (List.pairwise_cons.1 hpm).1 _ h5
          omega
theorem Sub.done {l m : List Int} {k : Nat} (h : Sub l m m.length k) (hs : ∀ z ∈ l, z ∈ m) : k = l.length := by
  have h1 : l.drop k = [] := by
    cases e : l.drop k with
    | nil => rfl
    | cons z t =>
      have hz : z ∈ l.drop k := by rw [e]; exact List.mem_cons_self ..
      have := h.2 z hz
      rw [List.take_length] at this
      exact absurd (hs z (List.mem_of_mem_drop hz)) this
  have := congrArg List.length h1
  rw [List.length_drop] at this
  have := h.1
  simp at *
  omega
end Go.Proofs.Ytakgehcfomfmdaa
