/- A slice of slices of texts, a slice of numbers that came in: their lengths, their cells, their sizes. No condition. -/
import Derived.Test.YtaecfgakgpndaaaFOpen
import Derived.Deep.Slices
namespace Go.Proofs.Ytaecfgakgpndaaa
open Go.ChangeShapes Go.WideShapes Go.ChangeAt Go.RowKit Go.Deep

/-- A slice of texts in a cell. -/
theorem texts_in {H : Type} {enc : TypeId × Value → H} {W : World} {base fuel : Nat} {spare : Nat → Bool} {hd : Bool} {v : Value} {d : DataW H} {p : List MemPlace}
    (hw : ∀ n ∈ d.weights Try.prog 25, n ≤ reachBytes) (hf : DataW.trod enc Try.prog W base spare hd fuel 25 [v] = some (d, p)) : ∃ l, IsTexts W v l := by
  rcases open_strings Try.underlying25 Try.underlying9 (by kernel_rfl) hf with ⟨hcs, _⟩ | ⟨a, len, cap, ss, hcs, _, hl, hm, hz, hx, hcell, _⟩
  · obtain rfl : v = .slice none 0 0 := by simpa using hcs
    exact ⟨[], none, 0, rfl, fun j h => by simp at h, by simp, fun b hb => by cases hb⟩
  · obtain rfl : v = .slice (some a) len cap := by simpa using hcs
    have hdd : d = .slice (strs (ss.take len)) (strs (ss.drop len)) := congrArg Prod.fst hx
    subst hdd
    have hle : len ≤ ss.length := by rw [hz]; split <;> omega
    have hlb : len ≤ 140737488351232 := by
      have := hw (((strs (H := H) (ss.take len)).length + (strs (H := H) (ss.drop len)).length) * (Try.prog.bytesOf 9)) (by
        simp only [DataW.weights, Try.underlying25, List.mem_cons, List.mem_append]
        exact .inl trivial)
      have hby : Try.prog.bytesOf 9 = 16 := by kernel_rfl
      rw [hby] at this
      simp [strs, reachBytes] at this
      omega
    refine ⟨(ss.take len).map fun s => s.data.toList, some a, cap, by simp; omega, fun j hj => ?_, by simp; omega, fun b hb => ?_⟩
    · have hj' : j < len := by simp at hj; omega
      have hc := hcell j (by omega)
      obtain ⟨b, o, sp⟩ := a
      have hsp : sp = none := by simpa [Addr.add] using World.cell?_spot (hcell 0 (by omega))
      subst hsp
      refine ⟨b, o, rfl, ?_⟩
      rw [Addr.add_lit] at hc
      rw [hc]
      simp [List.getD, mk_of, show j < ss.length by omega]
    · obtain ⟨s, hm2, rfl⟩ := List.mem_map.1 hb
      have := hw (s.data.toList.length) (by
        simp only [DataW.weights, Try.underlying25, List.mem_cons, List.mem_append]
        refine .inr (.inl (weights_all (d := .lit (.string s.data.toList)) ?_ (by simp [DataW.weights])))
        simp only [strs, List.mem_map]
        exact ⟨_, hm2, rfl⟩)
      simpa [reachBytes] using this

/-- Its length, its cells. -/
def IsTextss (w : World) (v : Value) (L : List (List (List UInt8))) : Prop :=
  ∃ a c, v = .slice a L.length c ∧ L.length ≤ 140737488351232 ∧ ∀ j (h : j < L.length), ∃ b o u, a = some ⟨b, o, none⟩ ∧ w.cell? ⟨b, o + j, none⟩ = some u ∧ IsTexts w u L[j]
theorem open_textss {H : Type} {enc : TypeId × Value → H} {W : World} {base : Nat} {v : Value} {d : DataW H} {p : List MemPlace} {ts : List TypeId} {ds : List (DataW H)} {j : Nat}
    (hsz : (DataW.weightsEach Try.prog ts ds).all (· ≤ reachBytes) = true) (ht : ts[j]? = some 22) (hd : ds[j]? = some d)
    (hval : Value.okWide Try.prog W .any base 22 v) (h : DataW.Trod enc Try.prog W 0 (fun _ => true) true 22 v d p) : ∃ L, IsTextss W v L := by
  obtain ⟨a0, len, cap, rfl⟩ := okWide_slice Try.underlying22 hval
  obtain ⟨fuel, hf⟩ := h
  rcases open_slice1 Try.underlying22 (by kernel_rfl) hf with ⟨hcs, _⟩ | ⟨a, len', cap', m, n, V, D, Pl, hcs, _, hl, hm, hmm, hx, hcell⟩
  · simp [Value.cells] at hcs
    obtain ⟨rfl, rfl, rfl⟩ := hcs
    exact ⟨[], none, 0, rfl, by simp, fun j h => by simp at h⟩
  · simp [Value.cells] at hcs
    obtain ⟨rfl, rfl, rfl⟩ := hcs
    have hdd : d = .slice ((List.range len).map D) ((List.range (m - len)).map fun j => D (len + j)) := congrArg Prod.fst hx
    subst hdd
    simp only [if_true] at hmm
    have hw := fun n hn => List.all_eq_true.1 hsz n (DataW.weights_mem_each ht hd n hn)
    have hlb : len ≤ 140737488351232 := by
      have := hw ((((List.range len).map D).length + ((List.range (m - len)).map fun j => D (len + j)).length) * (Try.prog.bytesOf 25)) (by
        simp only [DataW.weights, Try.underlying22, List.mem_cons, List.mem_append]
        exact .inl trivial)
      have hby : Try.prog.bytesOf 25 = 24 := by kernel_rfl
      rw [hby] at this
      simp [reachBytes] at this
      omega
    have each : ∀ i, i < len → ∃ l, IsTexts W (V i) l := fun i hi => texts_in (fun n hn => by
      have := hw n (by
        simp only [DataW.weights, Try.underlying22, List.mem_cons, List.mem_append]
        exact .inr (.inl (weights_all (d := D i) (List.mem_map.2 ⟨i, List.mem_range.2 hi, rfl⟩) hn)))
      simpa using this) (hcell i (by omega)).2
    obtain ⟨L, hL⟩ := choose_lt each
    refine ⟨(List.range len).map L, some a, cap, by simp, by simpa using hlb, fun i hi => ?_⟩
    have hi' : i < len := by simpa using hi
    have hc := (hcell i (by omega)).1
    obtain ⟨b, o, sp⟩ := a
    have hsp : sp = none := by simpa [Addr.add] using World.cell?_spot (hcell 0 (by omega)).1
    subst hsp
    refine ⟨b, o, V i, rfl, ?_, ?_⟩
    · rw [Addr.add_lit] at hc
      exact hc
    · simpa using hL i hi'

/-- Its length, its cells. -/
def IsInts (w : World) (v : Value) (l : List Int) : Prop :=
  ∃ a c, v = .slice a l.length c ∧ l.length ≤ 140737488351232 ∧ ∀ j (h : j < l.length), ∃ b o, a = some ⟨b, o, none⟩ ∧ w.cell? ⟨b, o + j, none⟩ = some (.int .i64 l[j]) ∧ (Lit.int .i64 l[j]).wf = true
theorem open_intz {H : Type} {enc : TypeId × Value → H} {W : World} {base : Nat} {v : Value} {d : DataW H} {p : List MemPlace} {ts : List TypeId} {ds : List (DataW H)} {j : Nat}
    (hsz : (DataW.weightsEach Try.prog ts ds).all (· ≤ reachBytes) = true) (ht : ts[j]? = some 23) (hd : ds[j]? = some d)
    (hval : Value.okWide Try.prog W .any base 23 v) (h : DataW.Trod enc Try.prog W 0 (fun _ => true) true 23 v d p) : ∃ l, IsInts W v l := by
  obtain ⟨a0, len, cap, rfl⟩ := okWide_slice Try.underlying23 hval
  obtain ⟨fuel, hf⟩ := h
  rcases open_ints Try.underlying23 Try.underlying3 (by kernel_rfl) hf with ⟨hcs, _⟩ | ⟨a, len', cap', zs, hcs, _, hl, hm, hz, hx, hcell, hwf⟩
  · simp [Value.cells] at hcs
    obtain ⟨rfl, rfl, rfl⟩ := hcs
    exact ⟨[], none, 0, rfl, by simp, fun j h => by simp at h⟩
  · simp [Value.cells] at hcs
    obtain ⟨rfl, rfl, rfl⟩ := hcs
    have hz' : zs.length = cap := by simpa using hz
    have hdd : d = .slice (lits .i64 (zs.take len)) (lits .i64 (zs.drop len)) := congrArg Prod.fst hx
    subst hdd
    have hlb : len ≤ 140737488351232 := by
      have := List.all_eq_true.1 hsz _ (DataW.weights_mem_each ht hd (((lits (H := H) .i64 (zs.take len)).length + (lits (H := H) .i64 (zs.drop len)).length) * (Try.prog.bytesOf 3)) (by
        simp only [DataW.weights, Try.underlying23, List.mem_cons, List.mem_append]
        exact .inl trivial))
      have hby : Try.prog.bytesOf 3 = 8 := by kernel_rfl
      rw [hby] at this
      simp [lits, reachBytes] at this
      omega
    refine ⟨zs.take len, some a, cap, by rw [List.length_take, Nat.min_eq_left (by omega)], by rw [List.length_take]; omega, fun i hj => ?_⟩
    have hj' : i < len := by rw [List.length_take] at hj; omega
    have hc := hcell i (by omega)
    obtain ⟨b, o, sp⟩ := a
    have hsp : sp = none := by simpa [Addr.add] using World.cell?_spot (hcell 0 (by omega))
    subst hsp
    refine ⟨b, o, rfl, ?_, ?_⟩
    · rw [Addr.add_lit] at hc
      rw [hc]
      simp [List.getD, show i < zs.length by omega]
    · exact hwf _ (List.mem_of_mem_take (List.getElem_mem hj))
end Go.Proofs.Ytaecfgakgpndaaa
