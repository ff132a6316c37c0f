/- A slice of a pool's operations that came in: its length, its cells. No condition. -/
import Derived.Test.YtlbeaoglkhfdcaaProg
import Derived.ProofKit
import Derived.OpenShut
import Derived.Deep.Slices
import Derived.Deep.Strs
import Derived.Lib.SmallJoins
namespace Go.Proofs.Ytlbeaoglkhfdcaa
open Go.ChangeShapes Go.WideShapes Go.ChangeAt Go.RowKit Go.Deep

structure POp where
  kind : Int
  page : Int
  lsn : Int
  b : ByteArray
  deriving Inhabited
/-- The four cells of the operation number j. -/
def OpAt (w : World) (a : Option Addr) (j : Nat) (x : POp) : Prop :=
  (Lit.int .i64 x.kind).wf = true ∧ (Lit.int .i64 x.page).wf = true ∧ (Lit.int .i64 x.lsn).wf = true ∧ ∃ b o, a = some ⟨b, o, none⟩ ∧ w.cell? ⟨b, o + j * 4, none⟩ = some (.int .i64 x.kind) ∧ w.cell? ⟨b, o + j * 4 + 1, none⟩ = some (.int .i64 x.page) ∧ w.cell? ⟨b, o + j * 4 + 2, none⟩ = some (.int .i64 x.lsn) ∧ w.cell? ⟨b, o + j * 4 + 3, none⟩ = some (.string x.b)
def IsOps (w : World) (v : Value) (l : List POp) : Prop := ∃ a c, v = .slice a l.length c ∧ ∀ j (h : j < l.length), OpAt w a j l[j]
theorem open_ops {H : Type} {enc : TypeId × Value → H} {W : World} {base : Nat} {v : Value} {d : DataW H} {p : List MemPlace}
    (hval : Value.okWide Try.prog W .any base 40 v) (h : DataW.Trod enc Try.prog W 0 (fun _ => true) true 40 v d p) : ∃ l, IsOps W v l := by
  obtain ⟨a0, len, cap, rfl⟩ := okWide_slice Try.underlying40 hval
  obtain ⟨fuel, hf⟩ := h
  rcases open_slice Try.underlying40 hf with ⟨hcs, _⟩ | ⟨a, len', cap', m, n, D, Pl, hcs, _, hl, hm, hmm, _, hel⟩
  · simp [Value.cells] at hcs
    obtain ⟨rfl, rfl, rfl⟩ := hcs
    exact ⟨[], none, 0, rfl, fun j h => by simp at h⟩
  · simp [Value.cells] at hcs
    obtain ⟨rfl, rfl, rfl⟩ := hcs
    have hm' : m = cap := by simpa using hmm
    have hc3 : (Try.prog).cellsOf 48 = 4 := by kernel_rfl
    have hci : (Try.prog).cellsOf 3 = 1 := by kernel_rfl
    have hcs : (Try.prog).cellsOf 9 = 1 := by kernel_rfl
    obtain ⟨b, o, sp⟩ := a
    have hsp : 0 < m → sp = none := by
      intro h0
      obtain ⟨cs', h1, h2⟩ := hel 0 h0
      rw [hc3] at h1
      obtain ⟨_, hlen, hce⟩ := World.cells?_some h1
      have g0 := hce 0 (by omega)
      rw [List.getElem?_eq_getElem (by omega)] at g0
      have := World.cell?_spot g0
      simpa [Addr.add] using this
    have hone : ∀ i, i < m → ∃ x : POp, OpAt W (some ⟨b, o, none⟩) i x := by
      intro i hi
      obtain rfl := hsp (by omega)
      obtain ⟨cs', h1, h2⟩ := hel i hi
      rw [hc3, Addr.add_lit] at h1
      obtain ⟨_, hlen, hce⟩ := World.cells?_some h1
      obtain ⟨y0, y1, y2, y3, k, _, _, t0, t1, t2, t3⟩ := Joins.trod_struct4 Try.underlying48 h2
      rw [hci] at t0 t1 t2
      rw [hcs] at t3
      match cs', hlen with
      | [c0, c1, c2, c3], _ =>
        obtain ⟨n0, e0, _, w0⟩ := DataW.trod_int Try.underlying3 t0
        obtain ⟨n1, e1, _, w1⟩ := DataW.trod_int Try.underlying3 t1
        obtain ⟨n2, e2, _, w2⟩ := DataW.trod_int Try.underlying3 t2
        obtain ⟨s3, e3, _, _⟩ := DataW.trod_string Try.underlying9 t3
        have e0' : c0 = .int .i64 n0 := by simpa using e0
        have e1' : c1 = .int .i64 n1 := by simpa using e1
        have e2' : c2 = .int .i64 n2 := by simpa using e2
        have e3' : c3 = .string s3 := by simpa using e3
        subst e0' e1' e2' e3'
        have g0 := hce 0 (by omega)
        have g1 := hce 1 (by omega)
        have g2 := hce 2 (by omega)
        have g3 := hce 3 (by omega)
        rw [Addr.add_lit] at g0 g1 g2 g3
        exact ⟨⟨n0, n1, n2, s3⟩, w0, w1, w2, b, o, rfl, g0, g1, g2, g3⟩
    obtain ⟨f, hf'⟩ := choose_lt (α := POp) hone
    have hres : ∀ j (h : j < ((List.range len).map f).length), OpAt W (some ⟨b, o, none⟩) j ((List.range len).map f)[j] := by
      intro j hj
      have hj' : j < len := by simpa using hj
      have ej : ((List.range len).map f)[j] = f j := by simp
      rw [ej]
      exact hf' j (by omega)
    by_cases h0 : 0 < m
    · obtain rfl := hsp h0
      exact ⟨(List.range len).map f, some ⟨b, o, none⟩, cap, by simp, hres⟩
    · obtain rfl : len = 0 := by omega
      exact ⟨[], some ⟨b, o, sp⟩, cap, rfl, fun j h => by simp at h⟩
end Go.Proofs.Ytlbeaoglkhfdcaa
