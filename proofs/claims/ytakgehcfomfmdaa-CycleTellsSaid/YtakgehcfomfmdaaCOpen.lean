/- Rows of pairs and of numbers that came in: their lengths, their cells. No condition. -/
import Derived.Test.YtakgehcfomfmdaaCMem
import Derived.ProofKit
import Derived.OpenShut
import Derived.SizedLaws
import Derived.Deep.Slices
namespace Go.Proofs.Ytakgehcfomfmdaa
open Go.ChangeShapes Go.WideShapes Go.ChangeAt Go.RowKit Go.Deep

/-- Its length, its cells. -/
def IsPairs (w : World) (v : Value) (E : List (Int × Int)) : Prop := ∃ a c, v = .slice a E.length c ∧ PAt w a E ∧ E.length ≤ 140737488351232
set_option maxRecDepth 100000 in
theorem open_pairs {H : Type} {enc : TypeId × Value → H} {W : World} {base : Nat} {v : Value} {d : DataW H} {p : List MemPlace} {ts : List TypeId} {ds : List (DataW H)} {j : Nat}
    (hsz : (DataW.weightsEach Try.prog ts ds).all (· ≤ reachBytes) = true) (ht : ts[j]? = some 22) (hd : ds[j]? = some d)
    (hval : Value.okWide Try.prog W .any base 22 v) (h : DataW.Trod enc Try.prog W 0 (fun _ => true) true 22 v d p) : ∃ E, IsPairs W v E := by
  obtain ⟨a0, len, cap, rfl⟩ := okWide_slice Try.underlying22 hval
  obtain ⟨fuel, hf⟩ := h
  rcases open_slice Try.underlying22 hf with ⟨hcs, _⟩ | ⟨a, len', cap', m, n, D, Pl, hcs, _, hl, hm, hmm, hx, hcell⟩
  · simp [Value.cells] at hcs
    obtain ⟨rfl, rfl, rfl⟩ := hcs
    exact ⟨[], none, 0, rfl, fun j h => by simp at h, by simp⟩
  · simp [Value.cells] at hcs
    obtain ⟨rfl, rfl, rfl⟩ := hcs
    have hdd : d = .slice ((List.range len).map D) ((List.range (m - len)).map fun j => D (len + j)) := congrArg Prod.fst hx
    subst hdd
    simp only [if_true] at hmm
    have hlb : len ≤ 140737488351232 := by
      have := List.all_eq_true.1 hsz _ (DataW.weights_mem_each ht hd ((((List.range len).map D).length + ((List.range (m - len)).map fun j => D (len + j)).length) * (Try.prog.bytesOf 43)) (by
        simp only [DataW.weights, Try.underlying22, List.mem_cons, List.mem_append]
        exact .inl trivial))
      have hby : Try.prog.bytesOf 43 = 16 := by kernel_rfl
      rw [hby] at this
      simp [reachBytes] at this
      omega
    have h2 : Try.prog.cellsOf 43 = 2 := by kernel_rfl
    have h1 : Try.prog.cellsOf 3 = 1 := by kernel_rfl
    rw [h2] at hcell
    have each : ∀ i, i < len → ∃ q : Int × Int, W.cell? (a.add (i * 2)) = some (.int .i64 q.1) ∧ W.cell? (a.add (i * 2 + 1)) = some (.int .i64 q.2) ∧ (Lit.int .i64 q.1).wf = true ∧ (Lit.int .i64 q.2).wf = true := by
      intro i hi
      obtain ⟨cs', g1, g2⟩ := hcell i (by omega)
      obtain ⟨_, hlen, hc⟩ := World.cells?_some g1
      obtain ⟨xs, k, _, _, _, hxl, hf⟩ := DataW.trod_array Try.underlying43 g2
      match xs, hxl, cs', hlen with
      | [y0, y1], _, [v0, v1], _ =>
        have f0 := hf 0 (by omega)
        have f1 := hf 1 (by omega)
        rw [h1] at f0 f1
        simp at f0 f1
        obtain ⟨q0, e0, _, g0⟩ := DataW.trod_int Try.underlying3 f0
        obtain ⟨q1, e1, _, gw1⟩ := DataW.trod_int Try.underlying3 f1
        cases e0
        cases e1
        have c0 := hc 0 (by omega)
        have c1 := hc 1 (by omega)
        rw [add_add] at c0 c1
        exact ⟨(q0, q1), by simpa using c0, by simpa using c1, g0, gw1⟩
    obtain ⟨q, hq⟩ := choose_lt each
    refine ⟨(List.range len).map q, some a, cap, by simp, fun j hj => ?_, by simpa using hlb⟩
    have hj' : j < len := by simpa using hj
    obtain ⟨c0, c1, g0, g1⟩ := hq j hj'
    obtain ⟨b, o, sp⟩ := a
    have hsp : sp = none := by simpa [Addr.add] using World.cell?_spot (hq 0 (by omega)).1
    subst hsp
    rw [Addr.add_lit] at c0 c1
    refine ⟨b, o, rfl, by simpa using c0, by simpa [Nat.add_assoc] using c1, by simpa using g0, by simpa using g1⟩
/-- Its length, its cells. -/
def IsInts (w : World) (v : Value) (l : List Int) : Prop := ∃ a c, v = .slice a l.length c ∧ IAt w a l ∧ IWf l ∧ l.length ≤ 140737488351232
set_option maxRecDepth 100000 in
theorem open_intz {H : Type} {enc : TypeId × Value → H} {W : World} {base : Nat} {v : Value} {d : DataW H} {p : List MemPlace} {ts : List TypeId} {ds : List (DataW H)} {j : Nat}
    (hsz : (DataW.weightsEach Try.prog ts ds).all (· ≤ reachBytes) = true) (ht : ts[j]? = some 25) (hd : ds[j]? = some d)
    (hval : Value.okWide Try.prog W .any base 25 v) (h : DataW.Trod enc Try.prog W 0 (fun _ => true) true 25 v d p) : ∃ l, IsInts W v l := by
  obtain ⟨a0, len, cap, rfl⟩ := okWide_slice Try.underlying25 hval
  obtain ⟨fuel, hf⟩ := h
  rcases open_ints Try.underlying25 Try.underlying3 (by kernel_rfl) hf with ⟨hcs, _⟩ | ⟨a, len', cap', zs, hcs, _, hl, hm, hz, hx, hcell, hwf⟩
  · simp [Value.cells] at hcs
    obtain ⟨rfl, rfl, rfl⟩ := hcs
    exact ⟨[], none, 0, rfl, fun j h => by simp at h, fun x hx => (by cases hx), by simp⟩
  · simp [Value.cells] at hcs
    obtain ⟨rfl, rfl, rfl⟩ := hcs
    have hz' : zs.length = cap := by simpa using hz
    have hdd : d = .slice (lits .i64 (zs.take len)) (lits .i64 (zs.drop len)) := congrArg Prod.fst hx
    subst hdd
    have hlb : len ≤ 140737488351232 := by
      have := List.all_eq_true.1 hsz _ (DataW.weights_mem_each ht hd (((lits (H := H) .i64 (zs.take len)).length + (lits (H := H) .i64 (zs.drop len)).length) * (Try.prog.bytesOf 3)) (by
        simp only [DataW.weights, Try.underlying25, List.mem_cons, List.mem_append]
        exact .inl trivial))
      have hby : Try.prog.bytesOf 3 = 8 := by kernel_rfl
      rw [hby] at this
      simp [lits, reachBytes] at this
      omega
    refine ⟨zs.take len, some a, cap, by rw [List.length_take, Nat.min_eq_left (by omega)], fun i hj => ?_, fun x hx => hwf x (List.mem_of_mem_take hx), by rw [List.length_take]; omega⟩
    have hj' : i < len := by rw [List.length_take] at hj; omega
    have hc := hcell i (by omega)
    obtain ⟨b, o, sp⟩ := a
    have hsp : sp = none := by simpa [Addr.add] using World.cell?_spot (hcell 0 (by omega))
    subst hsp
    refine ⟨b, o, rfl, ?_⟩
    rw [Addr.add_lit] at hc
    rw [hc]
    simp [List.getD, show i < zs.length by omega]
/-- A pair that came in. -/
def IsPair (_ : World) (v : Value) (q : Int × Int) : Prop := v = .agg #[.int .i64 q.1, .int .i64 q.2] ∧ (Lit.int .i64 q.1).wf = true ∧ (Lit.int .i64 q.2).wf = true
end Go.Proofs.Ytakgehcfomfmdaa
