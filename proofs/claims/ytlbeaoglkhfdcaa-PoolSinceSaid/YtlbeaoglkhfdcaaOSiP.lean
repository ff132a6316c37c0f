/- A page is dirty since the first change behind its last write: in plain words; a row of numbers that comes in. No condition. -/
import Derived.Test.YtlbeaoglkhfdcaaOTwP
import Derived.ProofKit
import Derived.OpenShut
import Derived.SizedLaws
import Derived.Deep.Slices
namespace Go.Proofs.Ytlbeaoglkhfdcaa
open Go.ChangeShapes Go.WideShapes Go.ChangeAt Go.RowKit Go.Deep
/-- Ahead of the i-th change. -/
structure SI (l : List Int) (k i : Nat) (s : PS) : Prop where
  ck : s.ck = i
  zero : i = 0 → s.ks = []
  pos : 0 < i → s.ks = [3] ∧ (s.fr 3).d = true ∧ (s.fr 3).since = if i ≤ k then l.getD 0 0 else l.getD k 0
theorem si_start (l : List Int) (k : Nat) : SI l k 0 PS.new := ⟨rfl, fun _ => rfl, fun h => by omega⟩
theorem SI.set {e b : ByteArray} {l : List Int} {k i : Nat} {s : PS} (h : SI l k i s) (hne : i ≠ k) : ∃ s', pset (dvSame e) 4 () s 3 b (l.getD i 0) = ((), s', 0) ∧ SI l k (i + 1) s' := by
  by_cases h0 : i = 0
  · subst h0
    have hk := h.zero rfl
    refine ⟨(s.add 3 ⟨ByteArray.empty, false, 0, 0, 0, 0⟩).set 3 b (l.getD 0 0), ?_, ?_⟩
    · unfold pset proom
      rw [hk]
      simp
    · refine ⟨?_, fun e => by omega, fun _ => ⟨?_, ?_, ?_⟩⟩
      · show s.ck + 1 = _
        rw [h.ck]; omega
      · show insK 3 s.ks = [3]
        rw [hk]; rfl
      · simp [PS.set, PS.add, PS.acc, PS.upd, Fr.set]
      · simp [PS.set, PS.add, PS.acc, PS.upd, Fr.set]
        have : ¬ k = 0 := by omega
        intro e
        omega
  · obtain ⟨hk, hd, hs⟩ := h.pos (by omega)
    refine ⟨s.set 3 b (l.getD i 0), ?_, ?_⟩
    · unfold pset
      rw [hk]
      simp
    · refine ⟨?_, fun e => by omega, fun _ => ⟨hk, ?_, ?_⟩⟩
      · show s.ck + 1 = _
        rw [h.ck]; omega
      · simp [PS.set, PS.acc, PS.upd, Fr.set]
      · have e1 : ((s.set 3 b (l.getD i 0)).fr 3).since = (s.fr 3).since := by simp [PS.set, PS.acc, PS.upd, Fr.set, hd]
        rw [e1, hs]
        by_cases e : i ≤ k
        · rw [if_pos e, if_pos (by omega)]
        · rw [if_neg e, if_neg (by omega)]
theorem SI.flush {e b : ByteArray} {l : List Int} {k : Nat} {s : PS} (h : SI l k k s) : ∃ s1 s', pflush (dvSame e) () s 3 = ((), s1, 0) ∧ pclean s1 3 = true ∧ pdirty s1 = [] ∧ s1.ck = k ∧ s1.ks.length ≤ 1 ∧ pset (dvSame e) 4 () s1 3 b (l.getD k 0) = ((), s', 0) ∧ SI l k (k + 1) s' := by
  by_cases h0 : k = 0
  · subst h0
    have hk := h.zero rfl
    refine ⟨s, (s.add 3 ⟨ByteArray.empty, false, 0, 0, 0, 0⟩).set 3 b (l.getD 0 0), ?_, ?_, ?_, h.ck, by rw [hk]; simp, ?_, ?_⟩
    · unfold pflush
      rw [if_neg (by rw [hk]; simp)]
    · simp [pclean, hk]
    · simp [pdirty, hk]
    · unfold pset proom
      rw [hk]
      simp
    · refine ⟨?_, fun e => by omega, fun _ => ⟨?_, ?_, ?_⟩⟩
      · show s.ck + 1 = _
        rw [h.ck]; omega
      · show insK 3 s.ks = [3]
        rw [hk]; rfl
      · simp [PS.set, PS.add, PS.acc, PS.upd, Fr.set]
      · simp [PS.set, PS.add, PS.acc, PS.upd, Fr.set]
  · obtain ⟨hk, hd, hs⟩ := h.pos (by omega)
    refine ⟨s.upd 3 { s.fr 3 with d := false }, (s.upd 3 { s.fr 3 with d := false }).set 3 b (l.getD k 0), ?_, ?_, ?_, h.ck, ?_, ?_, ?_⟩
    · unfold pflush
      rw [if_pos ⟨by rw [hk]; simp, hd⟩]
      simp [dvSame]
    · simp [pclean, PS.upd]
    · simp [pdirty, PS.upd, hk]
    · show s.ks.length ≤ 1
      rw [hk]; simp
    · unfold pset
      rw [if_pos (show (3 : Int) ∈ (s.upd 3 { s.fr 3 with d := false }).ks by show (3 : Int) ∈ s.ks; rw [hk]; simp)]
    · refine ⟨?_, fun e => by omega, fun _ => ⟨hk, ?_, ?_⟩⟩
      · show s.ck + 1 = _
        rw [h.ck]; omega
      · simp [PS.set, PS.acc, PS.upd, Fr.set]
      · simp [PS.set, PS.acc, PS.upd, Fr.set]
        intro e
        omega
theorem SI.end_ {l : List Int} {k i : Nat} {s : PS} (h : SI l k i s) (hk : k < i) : pdirty s = [(3, l.getD k 0)] ∧ pclean s 3 = false := by
  obtain ⟨h1, h2, h3⟩ := h.pos (by omega)
  rw [if_neg (by omega)] at h3
  exact ⟨by simp [pdirty, h1, h2, h3], by simp [pclean, h1, h2]⟩
/-! ### a row that comes in -/
/-- Its length, its cells. -/
def IsInts (w : World) (v : Value) (l : List Int) : Prop :=
  ∃ a c, v = .slice a l.length c ∧ l.length ≤ 140737488351232 ∧ ∀ j (h : j < l.length), ∃ b o, a = some ⟨b, o, none⟩ ∧ w.cell? ⟨b, o + j, none⟩ = some (.int .i64 l[j]) ∧ (Lit.int .i64 l[j]).wf = true
set_option maxRecDepth 100000 in
theorem open_intz {H : Type} {enc : TypeId × Value → H} {W : World} {base : Nat} {v : Value} {d : DataW H} {p : List MemPlace} {ts : List TypeId} {ds : List (DataW H)} {j : Nat}
    (hsz : (DataW.weightsEach Try.prog ts ds).all (· ≤ reachBytes) = true) (ht : ts[j]? = some 30) (hd : ds[j]? = some d)
    (hval : Value.okWide Try.prog W .any base 30 v) (h : DataW.Trod enc Try.prog W 0 (fun _ => true) true 30 v d p) : ∃ l, IsInts W v l := by
  obtain ⟨a0, len, cap, rfl⟩ := okWide_slice Try.underlying30 hval
  obtain ⟨fuel, hf⟩ := h
  rcases open_ints Try.underlying30 Try.underlying3 (by kernel_rfl) hf with ⟨hcs, _⟩ | ⟨a, len', cap', zs, hcs, _, hl, hm, hz, hx, hcell, hwf⟩
  · simp [Value.cells] at hcs
    obtain ⟨rfl, rfl, rfl⟩ := hcs
    exact ⟨[], none, 0, rfl, by simp, fun j h => by simp at h⟩
  · simp [Value.cells] at hcs
    obtain ⟨rfl, rfl, rfl⟩ := hcs
    have hz' : zs.length = cap := by simpa using hz
    have hdd : d = .slice (lits .i64 (zs.take len)) (lits .i64 (zs.drop len)) := congrArg Prod.fst hx
    subst hdd
    have hlb : len ≤ 140737488351232 := by
      have := List.all_eq_true.1 hsz _ (DataW.weights_mem_each ht hd (((lits (H := H) .i64 (zs.take len)).length + (lits (H := H) .i64 (zs.drop len)).length) * (Try.prog.bytesOf 3)) (by
        simp only [DataW.weights, Try.underlying30, List.mem_cons, List.mem_append]
        exact .inl trivial))
      have hby : Try.prog.bytesOf 3 = 8 := by kernel_rfl
      rw [hby] at this
      simp [lits, reachBytes] at this
      omega
    refine ⟨zs.take len, some a, cap, by rw [List.length_take, Nat.min_eq_left (by omega)], by rw [List.length_take]; omega, fun i hj => ?_⟩
    have hj' : i < len := by rw [List.length_take] at hj; omega
    have hc := hcell i (by omega)
    obtain ⟨b, o, sp⟩ := a
    have hsp : sp = none := by simpa [Addr.add] using World.cell?_spot (hcell 0 (by omega))
    subst hsp
    refine ⟨b, o, rfl, ?_, ?_⟩
    · rw [Addr.add_lit] at hc
      rw [hc]
      simp [List.getD, show i < zs.length by omega]
    · exact hwf _ (List.mem_of_mem_take (List.getElem_mem hj))
end Go.Proofs.Ytlbeaoglkhfdcaa
