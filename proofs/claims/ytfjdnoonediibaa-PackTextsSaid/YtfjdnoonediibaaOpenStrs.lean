/- A slice of texts that came in: what the walk is told of it. No condition. -/
import Derived.Test.YtfjdnoonediibaaProg
import Derived.ProofKit
import Derived.OpenShut
namespace Go.Proofs.Ytfjdnoonediibaa
open Go.ChangeShapes Go.WideShapes Go.ChangeAt Go.RowKit

/-- Its length, its cells. -/
def IsStrs (w : World) (v : Value) (ss : List ByteArray) : Prop :=
  ∃ a c, v = .slice a ss.length c ∧ ∀ j (h : j < ss.length), ∃ b o, a = some ⟨b, o, none⟩ ∧ w.cell? ⟨b, o + j, none⟩ = some (.string ss[j])
theorem open_strs {H : Type} {enc : TypeId × Value → H} {W : World} {base : Nat} {v : Value} {d : DataW H} {p : List MemPlace}
    (hval : Value.okWide Try.prog W .any base 36 v) (h : DataW.Trod enc Try.prog W 0 (fun _ => true) true 36 v d p) : ∃ ss, IsStrs W v ss := by
  obtain ⟨a0, len, cap, rfl⟩ := okWide_slice Try.underlying36 hval
  obtain ⟨fuel, hf⟩ := h
  rcases open_strings Try.underlying36 Try.underlying9 (by kernel_rfl) hf with ⟨hcs, _⟩ | ⟨a, len', cap', ss, hcs, _, hl, hm, hz, _, hcell, _⟩
  · simp [Value.cells] at hcs
    obtain ⟨rfl, rfl, rfl⟩ := hcs
    exact ⟨[], none, 0, rfl, fun j h => by simp at h⟩
  · simp [Value.cells] at hcs
    obtain ⟨rfl, rfl, rfl⟩ := hcs
    have hz' : ss.length = cap := by simpa using hz
    refine ⟨ss.take len, some a, cap, by rw [List.length_take, Nat.min_eq_left (by omega)], fun j hj => ?_⟩
    have hj' : j < len := by rw [List.length_take] at hj; omega
    have hc := hcell j (by omega)
    obtain ⟨b, o, sp⟩ := a
    have hsp : sp = none := by simpa [Addr.add] using World.cell?_spot (hcell 0 (by omega))
    subst hsp
    refine ⟨b, o, rfl, ?_⟩
    rw [Addr.add_lit] at hc
    rw [hc]
    simp [List.getD, show j < ss.length by omega]
end Go.Proofs.Ytfjdnoonediibaa
