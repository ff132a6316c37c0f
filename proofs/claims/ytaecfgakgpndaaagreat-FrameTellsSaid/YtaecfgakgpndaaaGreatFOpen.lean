/- A slice of texts that came in: its length, its cells, its texts' sizes. No condition. -/
import Derived.Test.YtaecfgakgpndaaaGreatFBytes
import Derived.ProofKit
import Derived.OpenShut
import Derived.SizedLaws
namespace Go.Proofs.YtaecfgakgpndaaaGreat
open Go.ChangeShapes Go.WideShapes Go.ChangeAt Go.RowKit

/-- Its length, its cells. -/
def IsStrs (w : World) (v : Value) (ss : List ByteArray) : Prop :=
  ∃ a c, v = .slice a ss.length c ∧ ∀ j (h : j < ss.length), ss[j].size ≤ 140737488351232 ∧ ∃ b o, a = some ⟨b, o, none⟩ ∧ w.cell? ⟨b, o + j, none⟩ = some (.string ss[j])
set_option maxRecDepth 100000 in
theorem weights_all {H : Type} {P : Program} {e : TypeId} {d : DataW H} {n : Nat} : ∀ {l : List (DataW H)}, d ∈ l → n ∈ d.weights P e → n ∈ DataW.weightsAll P e l
  | a :: l, hd, hn => by
    simp only [DataW.weightsAll, List.mem_append]
    rcases List.mem_cons.1 hd with rfl | hd
    · exact .inl hn
    · exact .inr (weights_all hd hn)
  | [], hd, _ => by cases hd
set_option maxRecDepth 100000 in
theorem open_strs {H : Type} {enc : TypeId × Value → H} {W : World} {base : Nat} {v : Value} {d : DataW H} {p : List MemPlace} {ts : List TypeId} {ds : List (DataW H)} {j : Nat}
    (hsz : (DataW.weightsEach Tryz.prog ts ds).all (· ≤ reachBytes) = true) (ht : ts[j]? = some 24) (hd : ds[j]? = some d)
    (hval : Value.okWide Tryz.prog W .any base 24 v) (h : DataW.Trod enc Tryz.prog W 0 (fun _ => true) true 24 v d p) : ∃ ss, IsStrs W v ss ∧ ss.length ≤ 140737488351232 := by
  obtain ⟨a0, len, cap, rfl⟩ := okWide_slice Tryz.underlying24 hval
  obtain ⟨fuel, hf⟩ := h
  rcases open_strings Tryz.underlying24 Tryz.underlying9 (by kernel_rfl) hf with ⟨hcs, _⟩ | ⟨a, len', cap', ss, hcs, _, hl, hm, hz, hx, hcell, _⟩
  · simp [Value.cells] at hcs
    obtain ⟨rfl, rfl, rfl⟩ := hcs
    exact ⟨[], ⟨none, 0, rfl, fun j h => by simp at h⟩, by simp⟩
  · simp [Value.cells] at hcs
    obtain ⟨rfl, rfl, rfl⟩ := hcs
    have hz' : ss.length = cap := by simpa using hz
    have hdd : d = .slice (strs (ss.take len)) (strs (ss.drop len)) := congrArg Prod.fst hx
    subst hdd
    have hlb : len ≤ 140737488351232 := by
      have := List.all_eq_true.1 hsz _ (DataW.weights_mem_each ht hd (((strs (H := H) (ss.take len)).length + (strs (H := H) (ss.drop len)).length) * (Tryz.prog.bytesOf 9)) (by
        simp only [DataW.weights, Tryz.underlying24, List.mem_cons, List.mem_append]
        exact .inl trivial))
      have hby : Tryz.prog.bytesOf 9 = 16 := by kernel_rfl
      rw [hby] at this
      simp [strs, reachBytes] at this
      omega
    refine ⟨ss.take len, ⟨some a, cap, by rw [List.length_take, Nat.min_eq_left (by omega)], fun i hj => ?_⟩, by rw [List.length_take]; omega⟩
    have hj' : i < len := by rw [List.length_take] at hj; omega
    have hc := hcell i (by omega)
    refine ⟨?_, ?_⟩
    · have hmem : (ss.take len)[i] ∈ ss.take len := List.getElem_mem hj
      have := List.all_eq_true.1 hsz _ (DataW.weights_mem_each ht hd ((ss.take len)[i].data.toList.length) (by
        simp only [DataW.weights, Tryz.underlying24, List.mem_cons, List.mem_append]
        refine .inr (.inl (weights_all (d := .lit (.string (ss.take len)[i].data.toList)) ?_ (by simp [DataW.weights])))
        simp only [strs, List.mem_map]
        exact ⟨_, hmem, rfl⟩))
      simp only [decide_eq_true_eq] at this
      rw [Array.length_toList] at this
      exact this
    · obtain ⟨b, o, sp⟩ := a
      have hsp : sp = none := by simpa [Addr.add] using World.cell?_spot (hcell 0 (by omega))
      subst hsp
      refine ⟨b, o, rfl, ?_⟩
      rw [Addr.add_lit] at hc
      rw [hc]
      simp [List.getD, show i < ss.length by omega]

/-- Its length, its cells, as bytes. -/
def IsTexts (w : World) (v : Value) (l : List (List UInt8)) : Prop := ∃ a c, v = .slice a l.length c ∧ TAt w a l ∧ l.length ≤ 140737488351232 ∧ ∀ b ∈ l, b.length ≤ 140737488351232
set_option maxRecDepth 100000 in
theorem open_texts {H : Type} {enc : TypeId × Value → H} {W : World} {base : Nat} {v : Value} {d : DataW H} {p : List MemPlace} {ts : List TypeId} {ds : List (DataW H)} {j : Nat}
    (hsz : (DataW.weightsEach Tryz.prog ts ds).all (· ≤ reachBytes) = true) (ht : ts[j]? = some 24) (hd : ds[j]? = some d)
    (hval : Value.okWide Tryz.prog W .any base 24 v) (h : DataW.Trod enc Tryz.prog W 0 (fun _ => true) true 24 v d p) : ∃ l, IsTexts W v l := by
  obtain ⟨ss, ⟨a, c, rfl, hs⟩, hll⟩ := open_strs hsz ht hd hval h
  refine ⟨ss.map fun s => s.data.toList, a, c, by simp, fun j hj => ?_, ?_, fun b hb => ?_⟩
  · have hj' : j < ss.length := by simpa using hj
    obtain ⟨_, b, o, e, hc⟩ := hs j hj'
    refine ⟨b, o, e, ?_⟩
    rw [hc]
    simp [mk_of]
  · simpa using hll
  · obtain ⟨s, hm, rfl⟩ := List.mem_map.1 hb
    obtain ⟨j, hj, rfl⟩ := List.getElem_of_mem hm
    have := (hs j hj).1
    rw [size_toList]
    exact this
end Go.Proofs.YtaecfgakgpndaaaGreat
