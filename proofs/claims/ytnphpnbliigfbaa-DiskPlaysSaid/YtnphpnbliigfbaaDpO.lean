/- A slice of a disk's operations that came in: its length, its cells, each one's slice of truths. No condition. -/
import Derived.Test.YtnphpnbliigfbaaOpenBools
import Derived.Deep.Slices
import Derived.Deep.Strs
namespace Go.Proofs.Ytnphpnbliigfbaa
open Go.ChangeShapes Go.WideShapes Go.ChangeAt Go.RowKit Go.Deep

structure DOp where
  kind : Int
  n : Int
  b : List UInt8
  raw : Bool
  keep : List Bool
  deriving Inhabited
/-- A cell that reads as a slice of truths. -/
theorem bools_in {H : Type} {enc : TypeId × Value → H} {W : World} {base fuel : Nat} {hd : Bool} {v : Value} {y : DataW H × List MemPlace}
    (hf : DataW.trod enc Try.prog W base (fun _ => true) hd fuel 22 [v] = some y) : ∃ ks, IsBools W v ks := by
  rcases open_bools Try.underlying22 Try.underlying4 (by kernel_rfl) hf with ⟨hcs, _⟩ | ⟨a, len, cap, F, hcs, _, hl, hm, _, hcell⟩
  · obtain rfl : v = .slice none 0 0 := by simpa using hcs
    exact ⟨[], none, 0, rfl, fun j h => by simp at h⟩
  · obtain rfl : v = .slice (some a) len cap := by simpa using hcs
    refine ⟨(List.range len).map F, some a, cap, by simp, fun j hj => ?_⟩
    have hj' : j < len := by simpa using hj
    have hc := hcell j (by omega)
    obtain ⟨b, o, sp⟩ := a
    have hsp : sp = none := by simpa [Addr.add] using World.cell?_spot (hcell 0 (by omega))
    subst hsp
    refine ⟨b, o, rfl, ?_⟩
    rw [Addr.add_lit] at hc
    rw [hc]
    simp
/-- The five cells of the operation number j. -/
def OpAt (w : World) (a : Option Addr) (j : Nat) (x : DOp) : Prop :=
  (Lit.int .i64 x.kind).wf = true ∧ (Lit.int .i64 x.n).wf = true ∧ ∃ b o u, a = some ⟨b, o, none⟩ ∧ w.cell? ⟨b, o + j * 5, none⟩ = some (.int .i64 x.kind) ∧ w.cell? ⟨b, o + j * 5 + 1, none⟩ = some (.int .i64 x.n) ∧ w.cell? ⟨b, o + j * 5 + 2, none⟩ = some (.string (mk x.b)) ∧ w.cell? ⟨b, o + j * 5 + 3, none⟩ = some (.bool x.raw) ∧ w.cell? ⟨b, o + j * 5 + 4, none⟩ = some u ∧ IsBools w u x.keep
def IsOps (w : World) (v : Value) (l : List DOp) : Prop := ∃ a c, v = .slice a l.length c ∧ ∀ j (h : j < l.length), OpAt w a j l[j]
theorem op_struct {H : Type} {enc : TypeId × Value → H} {W : World} {base fuel : Nat} {hd : Bool} {cs : List Value} {x : DataW H × List MemPlace}
    (h : DataW.trod enc Try.prog W base (fun _ => true) hd fuel 48 cs = some x) : ∃ (o : DOp) (u : Value), cs = [.int .i64 o.kind, .int .i64 o.n, .string (mk o.b), .bool o.raw, u] ∧ IsBools W u o.keep ∧ (Lit.int .i64 o.kind).wf = true ∧ (Lit.int .i64 o.n).wf = true := by
  have hc5 : (Try.prog).cellsOf 48 = 5 := by kernel_rfl
  have hci : (Try.prog).cellsOf 3 = 1 := by kernel_rfl
  have hcs : (Try.prog).cellsOf 9 = 1 := by kernel_rfl
  have hcb : (Try.prog).cellsOf 4 = 1 := by kernel_rfl
  have hcl : (Try.prog).cellsOf 22 = 1 := by kernel_rfl
  obtain ⟨xs, n, _, rfl, hl, hlen, hf⟩ := DataW.trod_struct Try.underlying48 h
  rw [hc5] at hl
  match xs, hlen with
  | [y0, y1, y2, y3, y4], _ =>
    match cs, hl with
    | [c0, c1, c2, c3, c4], _ =>
      have t0 : DataW.trod enc Try.prog W base (fun _ => true) hd n 3 [c0] = some y0 := by
        have z : DataW.trod enc Try.prog W base (fun _ => true) hd n 3 ((([c0, c1, c2, c3, c4] : List Value).drop 0).take ((Try.prog).cellsOf 3)) = some y0 := hf 0 _ rfl
        rw [hci] at z
        exact z
      have t1 : DataW.trod enc Try.prog W base (fun _ => true) hd n 3 [c1] = some y1 := by
        have z : DataW.trod enc Try.prog W base (fun _ => true) hd n 3 ((([c0, c1, c2, c3, c4] : List Value).drop 1).take ((Try.prog).cellsOf 3)) = some y1 := hf 1 _ rfl
        rw [hci] at z
        exact z
      have t2 : DataW.trod enc Try.prog W base (fun _ => true) hd n 9 [c2] = some y2 := by
        have z : DataW.trod enc Try.prog W base (fun _ => true) hd n 9 ((([c0, c1, c2, c3, c4] : List Value).drop 2).take ((Try.prog).cellsOf 9)) = some y2 := hf 2 _ rfl
        rw [hcs] at z
        exact z
      have t3 : DataW.trod enc Try.prog W base (fun _ => true) hd n 4 [c3] = some y3 := by
        have z : DataW.trod enc Try.prog W base (fun _ => true) hd n 4 ((([c0, c1, c2, c3, c4] : List Value).drop 3).take ((Try.prog).cellsOf 4)) = some y3 := hf 3 _ rfl
        rw [hcb] at z
        exact z
      have t4 : DataW.trod enc Try.prog W base (fun _ => true) hd n 22 [c4] = some y4 := by
        have z : DataW.trod enc Try.prog W base (fun _ => true) hd n 22 ((([c0, c1, c2, c3, c4] : List Value).drop 4).take ((Try.prog).cellsOf 22)) = some y4 := hf 4 _ rfl
        rw [hcl] at z
        exact z
      obtain ⟨n0, e0, _, w0⟩ := DataW.trod_int Try.underlying3 t0
      obtain ⟨n1, e1, _, w1⟩ := DataW.trod_int Try.underlying3 t1
      obtain ⟨s2, e2, _, _⟩ := DataW.trod_string Try.underlying9 t2
      obtain ⟨b3, e3, _⟩ := DataW.trod_bool Try.underlying4 t3
      obtain ⟨ks, hk⟩ := bools_in t4
      have e0' : c0 = .int .i64 n0 := by simpa using e0
      have e1' : c1 = .int .i64 n1 := by simpa using e1
      have e2' : c2 = .string s2 := by simpa using e2
      have e3' : c3 = .bool b3 := by simpa using e3
      subst e0' e1' e2' e3'
      exact ⟨⟨n0, n1, s2.data.toList, b3, ks⟩, c4, by simp [mk_of], hk, w0, w1⟩
theorem open_dops {H : Type} {enc : TypeId × Value → H} {W : World} {base : Nat} {v : Value} {d : DataW H} {p : List MemPlace}
    (hval : Value.okWide Try.prog W .any base 44 v) (h : DataW.Trod enc Try.prog W 0 (fun _ => true) true 44 v d p) : ∃ l, IsOps W v l := by
  obtain ⟨a0, len, cap, rfl⟩ := okWide_slice Try.underlying44 hval
  obtain ⟨fuel, hf⟩ := h
  rcases open_slice Try.underlying44 hf with ⟨hcs, _⟩ | ⟨a, len', cap', m, n, D, Pl, hcs, _, hl, hm, hmm, _, hel⟩
  · simp [Value.cells] at hcs
    obtain ⟨rfl, rfl, rfl⟩ := hcs
    exact ⟨[], none, 0, rfl, fun j h => by simp at h⟩
  · simp [Value.cells] at hcs
    obtain ⟨rfl, rfl, rfl⟩ := hcs
    have hm' : m = cap := by simpa using hmm
    have hc5 : (Try.prog).cellsOf 48 = 5 := by kernel_rfl
    obtain ⟨b, o, sp⟩ := a
    have hsp : 0 < m → sp = none := by
      intro h0
      obtain ⟨cs', h1, h2⟩ := hel 0 h0
      rw [hc5] at h1
      obtain ⟨_, hlen, hce⟩ := World.cells?_some h1
      have g0 := hce 0 (by omega)
      rw [List.getElem?_eq_getElem (by omega)] at g0
      have := World.cell?_spot g0
      simpa [Addr.add] using this
    have hone : ∀ i, i < m → ∃ x : DOp, OpAt W (some ⟨b, o, none⟩) i x := by
      intro i hi
      obtain rfl := hsp (by omega)
      obtain ⟨cs', h1, h2⟩ := hel i hi
      rw [hc5, Addr.add_lit] at h1
      obtain ⟨_, hlen, hce⟩ := World.cells?_some h1
      obtain ⟨x, u, rfl, hk, w0, w1⟩ := op_struct h2
      have g0 := hce 0 (by omega)
      have g1 := hce 1 (by omega)
      have g2 := hce 2 (by omega)
      have g3 := hce 3 (by omega)
      have g4 := hce 4 (by omega)
      rw [Addr.add_lit] at g0 g1 g2 g3 g4
      exact ⟨x, w0, w1, b, o, u, rfl, g0, g1, g2, g3, g4, hk⟩
    obtain ⟨f, hf'⟩ := choose_lt (α := DOp) hone
    have hres : ∀ j (h : j < ((List.range len).map f).length), OpAt W (some ⟨b, o, none⟩) j ((List.range len).map f)[j] := by
      intro j hj
      have hj' : j < len := by simpa using hj
      have ej : ((List.range len).map f)[j] = f j := by simp
      rw [ej]
      exact hf' j (by omega)
    by_cases h0 : 0 < m
    · obtain rfl := hsp h0
      exact ⟨(List.range len).map f, some ⟨b, o, none⟩, cap, by simp, hres⟩
    · obtain rfl : len = 0 := by omega
      exact ⟨[], some ⟨b, o, sp⟩, cap, rfl, fun j h => by simp at h⟩
end Go.Proofs.Ytnphpnbliigfbaa
