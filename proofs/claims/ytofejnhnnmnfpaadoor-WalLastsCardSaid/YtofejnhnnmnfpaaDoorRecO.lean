/- A record that came in. No condition. -/
import Derived.Test.YtofejnhnnmnfpaaDoorRNs
import Derived.ProofKit
import Derived.OpenShut
import Derived.SizedLaws
import Derived.Deep.Slices
import Derived.Deep.Strs
import Derived.Lib.SmallJoins
namespace Go.Proofs.YtofejnhnnmnfpaaDoor.Rc
set_option maxRecDepth 100000
instance : Inhabited Pt := ⟨⟨0, 0, []⟩⟩
instance : Inhabited Tt := ⟨⟨0, 0, false, []⟩⟩
open Go.ChangeShapes Go.WideShapes Go.ChangeAt Go.RowKit Go.Deep
/-- Numbers in a cell. -/
theorem ints_in {H : Type} {enc : TypeId × Value → H} {W : World} {base fuel : Nat} {hd : Bool} {v : Value} {y : DataW H × List MemPlace}
    (hf : DataW.trod enc Tryd.prog W base (fun _ => true) hd fuel 32 [v] = some y) : ∃ l, IsI W v l ∧ l.length ≤ 9223372036854775807 := by
  rcases open_ints Tryd.underlying32 Tryd.underlying3 (by kernel_rfl) hf with ⟨hcs, _⟩ | ⟨a, len, cap, zs, hcs, _, hl, hm, hz, hx, hcell, hwf⟩
  · obtain rfl : v = .slice none 0 0 := by simpa using hcs
    exact ⟨[], ⟨none, 0, rfl, fun j h => by simp at h⟩, by simp⟩
  · obtain rfl : v = .slice (some a) len cap := by simpa using hcs
    have hlz : len ≤ zs.length := by rw [hz]; split <;> omega
    refine ⟨zs.take len, ⟨some a, cap, by rw [List.length_take, Nat.min_eq_left hlz], fun j hj => ?_⟩, by rw [List.length_take]; have : cap ≤ maxLen := hm; unfold maxLen at this; omega⟩
    have hj' : j < len := by rw [List.length_take] at hj; omega
    have hc := hcell j (by omega)
    obtain ⟨b, o, sp⟩ := a
    have hsp : sp = none := by simpa [Addr.add] using World.cell?_spot (hcell 0 (by omega))
    subst hsp
    refine ⟨b, o, rfl, ?_⟩
    rw [Addr.add_lit] at hc
    rw [hc]
    simp [List.getD, show j < zs.length by omega]
/-- The elements of a slice of structs, by what is known of each. -/
theorem row_in {α : Type} [Inhabited α] {H : Type} {enc : TypeId × Value → H} {W : World} {base fuel : Nat} {hd : Bool} {v : Value} {y : DataW H × List MemPlace} {t e : TypeId} {k : Nat} (hk : 0 < k)
    (ht : Tryd.prog.underlying t = some (.slice e)) (hc : (Tryd.prog).cellsOf e = k) (R : Option Addr → Nat → α → Prop)
    (hR : ∀ (b o i : Nat) (cs : List Value) (fuel : Nat) (x : DataW H × List MemPlace), cs.length = k → (∀ j (_ : j < k), W.cell? ⟨b, o + i * k + j, none⟩ = cs[j]?) → DataW.trod enc Tryd.prog W base (fun _ => true) hd fuel e cs = some x → ∃ x, R (some ⟨b, o, none⟩) i x)
    (hby : 0 < (Tryd.prog).bytesOf e) (hw : ∀ n ∈ y.1.weights Tryd.prog t, n ≤ reachBytes)
    (hf : DataW.trod enc Tryd.prog W base (fun _ => true) hd fuel t [v] = some y) : ∃ (l : List α) (a : Option Addr) (c : Nat), v = .slice a l.length c ∧ l.length ≤ 140737488351232 ∧ ∀ j (h : j < l.length), R a j l[j] := by
  rcases open_slice ht hf with ⟨hcs, _⟩ | ⟨a, len, cap, m, n, D, Pl, hcs, _, hl, hm, hmm, hxx, hel⟩
  · obtain rfl : v = .slice none 0 0 := by simpa using hcs
    exact ⟨[], none, 0, rfl, by simp, fun j h => by simp at h⟩
  · obtain rfl : v = .slice (some a) len cap := by simpa using hcs
    have hlb : len ≤ 140737488351232 := by
      subst hxx
      have := hw ((((List.range len).map D).length + ((List.range (m - len)).map fun j => D (len + j)).length) * (Tryd.prog.bytesOf e)) (by
        simp only [DataW.weights, ht, List.mem_cons, List.mem_append]
        exact .inl trivial)
      have h2 : len * 1 ≤ (((List.range len).map D).length + ((List.range (m - len)).map fun j => D (len + j)).length) * (Tryd.prog.bytesOf e) := Nat.mul_le_mul (by simp) hby
      simp only [reachBytes] at this
      omega
    obtain ⟨b, o, sp⟩ := a
    have hlm : len ≤ m := by rw [hmm]; split <;> omega
    have hsp : 0 < m → sp = none := by
      intro h0
      obtain ⟨cs', h1, h2⟩ := hel 0 h0
      rw [hc] at h1
      obtain ⟨_, hlen, hce⟩ := World.cells?_some h1
      have g0 := hce 0 (by omega)
      rw [List.getElem?_eq_getElem (by omega)] at g0
      have := World.cell?_spot g0
      simpa [Addr.add] using this
    have hone : ∀ i, i < m → ∃ x : α, R (some ⟨b, o, none⟩) i x := by
      intro i hi
      obtain rfl := hsp (by omega)
      obtain ⟨cs', h1, h2⟩ := hel i hi
      rw [hc, Addr.add_lit] at h1
      obtain ⟨_, hlen, hce⟩ := World.cells?_some h1
      refine hR b o i cs' _ _ hlen (fun j hj => ?_) h2
      have := hce j hj
      rw [Addr.add_lit] at this
      exact this
    obtain ⟨f, hf'⟩ := choose_lt (α := α) hone
    by_cases h0 : 0 < m
    · obtain rfl := hsp h0
      refine ⟨(List.range len).map f, some ⟨b, o, none⟩, cap, by simp, by simpa using hlb, fun j hj => ?_⟩
      have hj' : j < len := by simpa using hj
      have ej : ((List.range len).map f)[j] = f j := by simp
      rw [ej]
      exact hf' j (by omega)
    · obtain rfl : len = 0 := by omega
      exact ⟨[], some ⟨b, o, sp⟩, cap, rfl, by simp, fun j h => by simp at h⟩
set_option maxRecDepth 100000 in
theorem pat_in {H : Type} {enc : TypeId × Value → H} {W : World} {base fuel : Nat} {hd : Bool} {cs : List Value} {x : DataW H × List MemPlace}
    (h : DataW.trod enc Tryd.prog W base (fun _ => true) hd fuel 77 cs = some x) : ∃ p : Pt, cs = [.int .i64 p.page, .int .i64 p.at_, .string (mk p.bytes)] := by
  obtain ⟨xs, n, _, rfl, hl, hlen, hf⟩ := DataW.trod_struct Tryd.underlying77 h
  rw [show (Tryd.prog).cellsOf 77 = 3 by kernel_rfl] at hl
  match xs, hlen with
  | [y0, y1, y2], _ =>
    match cs, hl with
    | [c0, c1, c2], _ =>
      have t0 : DataW.trod enc Tryd.prog W base (fun _ => true) hd n 3 [c0] = some y0 := by
        have z : DataW.trod enc Tryd.prog W base (fun _ => true) hd n 3 ((([c0, c1, c2] : List Value).drop 0).take ((Tryd.prog).cellsOf 3)) = some y0 := hf 0 _ rfl
        rw [show (Tryd.prog).cellsOf 3 = 1 by kernel_rfl] at z
        exact z
      have t1 : DataW.trod enc Tryd.prog W base (fun _ => true) hd n 3 [c1] = some y1 := by
        have z : DataW.trod enc Tryd.prog W base (fun _ => true) hd n 3 ((([c0, c1, c2] : List Value).drop 1).take ((Tryd.prog).cellsOf 3)) = some y1 := hf 1 _ rfl
        rw [show (Tryd.prog).cellsOf 3 = 1 by kernel_rfl] at z
        exact z
      have t2 : DataW.trod enc Tryd.prog W base (fun _ => true) hd n 9 [c2] = some y2 := by
        have z : DataW.trod enc Tryd.prog W base (fun _ => true) hd n 9 ((([c0, c1, c2] : List Value).drop 2).take ((Tryd.prog).cellsOf 9)) = some y2 := hf 2 _ rfl
        rw [show (Tryd.prog).cellsOf 9 = 1 by kernel_rfl] at z
        exact z
      obtain ⟨n0, e0, _, _⟩ := DataW.trod_int Tryd.underlying3 t0
      obtain rfl : c0 = .int .i64 n0 := by simpa using e0
      obtain ⟨n1, e1, _, _⟩ := DataW.trod_int Tryd.underlying3 t1
      obtain rfl : c1 = .int .i64 n1 := by simpa using e1
      obtain ⟨s2, e2, _, _⟩ := DataW.trod_string Tryd.underlying9 t2
      obtain rfl : c2 = .string s2 := by simpa using e2
      exact ⟨⟨n0, n1, s2.data.toList⟩, by simp [mk_of]⟩
set_option maxRecDepth 100000 in
theorem tx_in {H : Type} {enc : TypeId × Value → H} {W : World} {base fuel : Nat} {hd : Bool} {cs : List Value} {x : DataW H × List MemPlace}
    (h : DataW.trod enc Tryd.prog W base (fun _ => true) hd fuel 79 cs = some x) : ∃ (t : Tt) (u : Value), cs = [.int .i64 t.tx, .int .i64 t.last, .bool t.com, u] ∧ IsI W u t.pages ∧ t.pages.length ≤ 9223372036854775807 := by
  obtain ⟨xs, n, _, rfl, hl, hlen, hf⟩ := DataW.trod_struct Tryd.underlying79 h
  rw [show (Tryd.prog).cellsOf 79 = 4 by kernel_rfl] at hl
  match xs, hlen with
  | [y0, y1, y2, y3], _ =>
    match cs, hl with
    | [c0, c1, c2, c3], _ =>
      have t0 : DataW.trod enc Tryd.prog W base (fun _ => true) hd n 3 [c0] = some y0 := by
        have z : DataW.trod enc Tryd.prog W base (fun _ => true) hd n 3 ((([c0, c1, c2, c3] : List Value).drop 0).take ((Tryd.prog).cellsOf 3)) = some y0 := hf 0 _ rfl
        rw [show (Tryd.prog).cellsOf 3 = 1 by kernel_rfl] at z
        exact z
      have t1 : DataW.trod enc Tryd.prog W base (fun _ => true) hd n 3 [c1] = some y1 := by
        have z : DataW.trod enc Tryd.prog W base (fun _ => true) hd n 3 ((([c0, c1, c2, c3] : List Value).drop 1).take ((Tryd.prog).cellsOf 3)) = some y1 := hf 1 _ rfl
        rw [show (Tryd.prog).cellsOf 3 = 1 by kernel_rfl] at z
        exact z
      have t2 : DataW.trod enc Tryd.prog W base (fun _ => true) hd n 4 [c2] = some y2 := by
        have z : DataW.trod enc Tryd.prog W base (fun _ => true) hd n 4 ((([c0, c1, c2, c3] : List Value).drop 2).take ((Tryd.prog).cellsOf 4)) = some y2 := hf 2 _ rfl
        rw [show (Tryd.prog).cellsOf 4 = 1 by kernel_rfl] at z
        exact z
      have t3 : DataW.trod enc Tryd.prog W base (fun _ => true) hd n 32 [c3] = some y3 := by
        have z : DataW.trod enc Tryd.prog W base (fun _ => true) hd n 32 ((([c0, c1, c2, c3] : List Value).drop 3).take ((Tryd.prog).cellsOf 32)) = some y3 := hf 3 _ rfl
        rw [show (Tryd.prog).cellsOf 32 = 1 by kernel_rfl] at z
        exact z
      obtain ⟨n0, e0, _, _⟩ := DataW.trod_int Tryd.underlying3 t0
      obtain rfl : c0 = .int .i64 n0 := by simpa using e0
      obtain ⟨n1, e1, _, _⟩ := DataW.trod_int Tryd.underlying3 t1
      obtain rfl : c1 = .int .i64 n1 := by simpa using e1
      obtain ⟨b2, e2, _⟩ := DataW.trod_bool Tryd.underlying4 t2
      obtain rfl : c2 = .bool b2 := by simpa using e2
      obtain ⟨l3, k3⟩ := ints_in t3
      exact ⟨⟨n0, n1, b2, l3⟩, c3, rfl, k3⟩
set_option maxRecDepth 100000 in
theorem dir_in {H : Type} {enc : TypeId × Value → H} {W : World} {base fuel : Nat} {hd : Bool} {cs : List Value} {x : DataW H × List MemPlace}
    (h : DataW.trod enc Tryd.prog W base (fun _ => true) hd fuel 84 cs = some x) : ∃ d : Int × Int, cs = [.int .i64 d.1, .int .i64 d.2] := by
  obtain ⟨xs, n, _, rfl, hl, hlen, hf⟩ := DataW.trod_struct Tryd.underlying84 h
  rw [show (Tryd.prog).cellsOf 84 = 2 by kernel_rfl] at hl
  match xs, hlen with
  | [y0, y1], _ =>
    match cs, hl with
    | [c0, c1], _ =>
      have t0 : DataW.trod enc Tryd.prog W base (fun _ => true) hd n 3 [c0] = some y0 := by
        have z : DataW.trod enc Tryd.prog W base (fun _ => true) hd n 3 ((([c0, c1] : List Value).drop 0).take ((Tryd.prog).cellsOf 3)) = some y0 := hf 0 _ rfl
        rw [show (Tryd.prog).cellsOf 3 = 1 by kernel_rfl] at z
        exact z
      have t1 : DataW.trod enc Tryd.prog W base (fun _ => true) hd n 3 [c1] = some y1 := by
        have z : DataW.trod enc Tryd.prog W base (fun _ => true) hd n 3 ((([c0, c1] : List Value).drop 1).take ((Tryd.prog).cellsOf 3)) = some y1 := hf 1 _ rfl
        rw [show (Tryd.prog).cellsOf 3 = 1 by kernel_rfl] at z
        exact z
      obtain ⟨n0, e0, _, _⟩ := DataW.trod_int Tryd.underlying3 t0
      obtain rfl : c0 = .int .i64 n0 := by simpa using e0
      obtain ⟨n1, e1, _, _⟩ := DataW.trod_int Tryd.underlying3 t1
      obtain rfl : c1 = .int .i64 n1 := by simpa using e1
      exact ⟨(n0, n1), rfl⟩
set_option maxRecDepth 100000 in
theorem cel_in {H : Type} {enc : TypeId × Value → H} {W : World} {base fuel : Nat} {hd : Bool} {cs : List Value} {x : DataW H × List MemPlace}
    (h : DataW.trod enc Tryd.prog W base (fun _ => true) hd fuel 31 cs = some x) : ∃ c : Cl, cs = [.string (mk c.key), .string (mk c.val), .int .i64 c.blob, .int .i64 c.size] := by
  obtain ⟨xs, n, _, rfl, hl, hlen, hf⟩ := DataW.trod_struct Tryd.underlying31 h
  rw [show (Tryd.prog).cellsOf 31 = 4 by kernel_rfl] at hl
  match xs, hlen with
  | [y0, y1, y2, y3], _ =>
    match cs, hl with
    | [c0, c1, c2, c3], _ =>
      have t0 : DataW.trod enc Tryd.prog W base (fun _ => true) hd n 9 [c0] = some y0 := by
        have z : DataW.trod enc Tryd.prog W base (fun _ => true) hd n 9 ((([c0, c1, c2, c3] : List Value).drop 0).take ((Tryd.prog).cellsOf 9)) = some y0 := hf 0 _ rfl
        rw [show (Tryd.prog).cellsOf 9 = 1 by kernel_rfl] at z
        exact z
      have t1 : DataW.trod enc Tryd.prog W base (fun _ => true) hd n 9 [c1] = some y1 := by
        have z : DataW.trod enc Tryd.prog W base (fun _ => true) hd n 9 ((([c0, c1, c2, c3] : List Value).drop 1).take ((Tryd.prog).cellsOf 9)) = some y1 := hf 1 _ rfl
        rw [show (Tryd.prog).cellsOf 9 = 1 by kernel_rfl] at z
        exact z
      have t2 : DataW.trod enc Tryd.prog W base (fun _ => true) hd n 3 [c2] = some y2 := by
        have z : DataW.trod enc Tryd.prog W base (fun _ => true) hd n 3 ((([c0, c1, c2, c3] : List Value).drop 2).take ((Tryd.prog).cellsOf 3)) = some y2 := hf 2 _ rfl
        rw [show (Tryd.prog).cellsOf 3 = 1 by kernel_rfl] at z
        exact z
      have t3 : DataW.trod enc Tryd.prog W base (fun _ => true) hd n 3 [c3] = some y3 := by
        have z : DataW.trod enc Tryd.prog W base (fun _ => true) hd n 3 ((([c0, c1, c2, c3] : List Value).drop 3).take ((Tryd.prog).cellsOf 3)) = some y3 := hf 3 _ rfl
        rw [show (Tryd.prog).cellsOf 3 = 1 by kernel_rfl] at z
        exact z
      obtain ⟨s0, e0, _, _⟩ := DataW.trod_string Tryd.underlying9 t0
      obtain rfl : c0 = .string s0 := by simpa using e0
      obtain ⟨s1, e1, _, _⟩ := DataW.trod_string Tryd.underlying9 t1
      obtain rfl : c1 = .string s1 := by simpa using e1
      obtain ⟨n2, e2, _, _⟩ := DataW.trod_int Tryd.underlying3 t2
      obtain rfl : c2 = .int .i64 n2 := by simpa using e2
      obtain ⟨n3, e3, _, _⟩ := DataW.trod_int Tryd.underlying3 t3
      obtain rfl : c3 = .int .i64 n3 := by simpa using e3
      exact ⟨⟨s0.data.toList, s1.data.toList, n2, n3⟩, by simp [mk_of]⟩
/-- A record that came in. -/
def IsRec (w : World) (v : Value) (r : Rec) : Prop := (∃ vp vt vx vd, RecAt w v vp vt vx vd r) ∧ r.pats.length ≤ 140737488351232 ∧ r.txs.length ≤ 140737488351232
set_option maxRecDepth 100000 in
theorem rec_in {H : Type} {enc : TypeId × Value → H} {W : World} {base fuel : Nat} {hd : Bool} {cs : List Value} {x : DataW H × List MemPlace}
    (h : DataW.trod enc Tryd.prog W base (fun _ => true) hd fuel 37 cs = some x) (hw : ∀ n ∈ x.1.weights Tryd.prog 37, n ≤ reachBytes) : ∃ r : Rec, IsRec W (.agg cs.toArray) r ∧ r.pages.length ≤ 9223372036854775807 ∧ ∀ t ∈ r.txs, t.pages.length ≤ 9223372036854775807 := by
  obtain ⟨xs, n, _, rfl, hl, hlen, hf⟩ := DataW.trod_struct Tryd.underlying37 h
  rw [show (Tryd.prog).cellsOf 37 = 14 by kernel_rfl] at hl
  match xs, hlen with
  | [y0, y1, y2, y3, y4, y5, y6, y7, y8, y9, y10], _ =>
    match cs, hl with
    | [c0, c1, c2, c3, c4, c5, c6, c7, c8, c9, c10, c11, c12, c13], _ =>
      have t0 : DataW.trod enc Tryd.prog W base (fun _ => true) hd n 3 [c0] = some y0 := by
        have z : DataW.trod enc Tryd.prog W base (fun _ => true) hd n 3 ((([c0, c1, c2, c3, c4, c5, c6, c7, c8, c9, c10, c11, c12, c13] : List Value).drop 0).take ((Tryd.prog).cellsOf 3)) = some y0 := hf 0 _ rfl
        rw [show (Tryd.prog).cellsOf 3 = 1 by kernel_rfl] at z
        exact z
      have t1 : DataW.trod enc Tryd.prog W base (fun _ => true) hd n 3 [c1] = some y1 := by
        have z : DataW.trod enc Tryd.prog W base (fun _ => true) hd n 3 ((([c0, c1, c2, c3, c4, c5, c6, c7, c8, c9, c10, c11, c12, c13] : List Value).drop 1).take ((Tryd.prog).cellsOf 3)) = some y1 := hf 1 _ rfl
        rw [show (Tryd.prog).cellsOf 3 = 1 by kernel_rfl] at z
        exact z
      have t2 : DataW.trod enc Tryd.prog W base (fun _ => true) hd n 3 [c2] = some y2 := by
        have z : DataW.trod enc Tryd.prog W base (fun _ => true) hd n 3 ((([c0, c1, c2, c3, c4, c5, c6, c7, c8, c9, c10, c11, c12, c13] : List Value).drop 2).take ((Tryd.prog).cellsOf 3)) = some y2 := hf 2 _ rfl
        rw [show (Tryd.prog).cellsOf 3 = 1 by kernel_rfl] at z
        exact z
      have t3 : DataW.trod enc Tryd.prog W base (fun _ => true) hd n 3 [c3] = some y3 := by
        have z : DataW.trod enc Tryd.prog W base (fun _ => true) hd n 3 ((([c0, c1, c2, c3, c4, c5, c6, c7, c8, c9, c10, c11, c12, c13] : List Value).drop 3).take ((Tryd.prog).cellsOf 3)) = some y3 := hf 3 _ rfl
        rw [show (Tryd.prog).cellsOf 3 = 1 by kernel_rfl] at z
        exact z
      have t4 : DataW.trod enc Tryd.prog W base (fun _ => true) hd n 9 [c4] = some y4 := by
        have z : DataW.trod enc Tryd.prog W base (fun _ => true) hd n 9 ((([c0, c1, c2, c3, c4, c5, c6, c7, c8, c9, c10, c11, c12, c13] : List Value).drop 4).take ((Tryd.prog).cellsOf 9)) = some y4 := hf 4 _ rfl
        rw [show (Tryd.prog).cellsOf 9 = 1 by kernel_rfl] at z
        exact z
      have t5 : DataW.trod enc Tryd.prog W base (fun _ => true) hd n 4 [c5] = some y5 := by
        have z : DataW.trod enc Tryd.prog W base (fun _ => true) hd n 4 ((([c0, c1, c2, c3, c4, c5, c6, c7, c8, c9, c10, c11, c12, c13] : List Value).drop 5).take ((Tryd.prog).cellsOf 4)) = some y5 := hf 5 _ rfl
        rw [show (Tryd.prog).cellsOf 4 = 1 by kernel_rfl] at z
        exact z
      have t6 : DataW.trod enc Tryd.prog W base (fun _ => true) hd n 31 [c6, c7, c8, c9] = some y6 := by
        have z : DataW.trod enc Tryd.prog W base (fun _ => true) hd n 31 ((([c0, c1, c2, c3, c4, c5, c6, c7, c8, c9, c10, c11, c12, c13] : List Value).drop 6).take ((Tryd.prog).cellsOf 31)) = some y6 := hf 6 _ rfl
        rw [show (Tryd.prog).cellsOf 31 = 4 by kernel_rfl] at z
        exact z
      have t7 : DataW.trod enc Tryd.prog W base (fun _ => true) hd n 32 [c10] = some y7 := by
        have z : DataW.trod enc Tryd.prog W base (fun _ => true) hd n 32 ((([c0, c1, c2, c3, c4, c5, c6, c7, c8, c9, c10, c11, c12, c13] : List Value).drop 10).take ((Tryd.prog).cellsOf 32)) = some y7 := hf 7 _ rfl
        rw [show (Tryd.prog).cellsOf 32 = 1 by kernel_rfl] at z
        exact z
      have t8 : DataW.trod enc Tryd.prog W base (fun _ => true) hd n 33 [c11] = some y8 := by
        have z : DataW.trod enc Tryd.prog W base (fun _ => true) hd n 33 ((([c0, c1, c2, c3, c4, c5, c6, c7, c8, c9, c10, c11, c12, c13] : List Value).drop 11).take ((Tryd.prog).cellsOf 33)) = some y8 := hf 8 _ rfl
        rw [show (Tryd.prog).cellsOf 33 = 1 by kernel_rfl] at z
        exact z
      have t9 : DataW.trod enc Tryd.prog W base (fun _ => true) hd n 34 [c12] = some y9 := by
        have z : DataW.trod enc Tryd.prog W base (fun _ => true) hd n 34 ((([c0, c1, c2, c3, c4, c5, c6, c7, c8, c9, c10, c11, c12, c13] : List Value).drop 12).take ((Tryd.prog).cellsOf 34)) = some y9 := hf 9 _ rfl
        rw [show (Tryd.prog).cellsOf 34 = 1 by kernel_rfl] at z
        exact z
      have t10 : DataW.trod enc Tryd.prog W base (fun _ => true) hd n 35 [c13] = some y10 := by
        have z : DataW.trod enc Tryd.prog W base (fun _ => true) hd n 35 ((([c0, c1, c2, c3, c4, c5, c6, c7, c8, c9, c10, c11, c12, c13] : List Value).drop 13).take ((Tryd.prog).cellsOf 35)) = some y10 := hf 10 _ rfl
        rw [show (Tryd.prog).cellsOf 35 = 1 by kernel_rfl] at z
        exact z
      obtain ⟨n0, e0, _, _⟩ := DataW.trod_int Tryd.underlying3 t0
      obtain rfl : c0 = .int .i64 n0 := by simpa using e0
      obtain ⟨n1, e1, _, _⟩ := DataW.trod_int Tryd.underlying3 t1
      obtain rfl : c1 = .int .i64 n1 := by simpa using e1
      obtain ⟨n2, e2, _, _⟩ := DataW.trod_int Tryd.underlying3 t2
      obtain rfl : c2 = .int .i64 n2 := by simpa using e2
      obtain ⟨n3, e3, _, _⟩ := DataW.trod_int Tryd.underlying3 t3
      obtain rfl : c3 = .int .i64 n3 := by simpa using e3
      obtain ⟨s4, e4, _, _⟩ := DataW.trod_string Tryd.underlying9 t4
      obtain rfl : c4 = .string s4 := by simpa using e4
      obtain ⟨b5, e5, _⟩ := DataW.trod_bool Tryd.underlying4 t5
      obtain rfl : c5 = .bool b5 := by simpa using e5
      obtain ⟨l7, k7, k7'⟩ := ints_in t7
      obtain ⟨old, hold⟩ := cel_in t6
      obtain ⟨rfl, rfl, rfl, rfl⟩ : c6 = .string (mk old.key) ∧ c7 = .string (mk old.val) ∧ c8 = .int .i64 old.blob ∧ c9 = .int .i64 old.size := by simpa using hold
      obtain ⟨pl, a8, q8, rfl, b8, g8⟩ := row_in (α := Pt) (k := 3) (by omega) Tryd.underlying33 (by kernel_rfl) (fun a j p => ∃ b o, a = some ⟨b, o, none⟩ ∧ W.cell? ⟨b, o + j * 3, none⟩ = some (.int .i64 p.page) ∧ W.cell? ⟨b, o + j * 3 + 1, none⟩ = some (.int .i64 p.at_) ∧ W.cell? ⟨b, o + j * 3 + 2, none⟩ = some (.string (mk p.bytes)))
        (fun b o i cs fuel x hk hc ht => by
          obtain ⟨p, rfl⟩ := pat_in ht
          exact ⟨p, b, o, rfl, hc 0 (by omega), hc 1 (by omega), hc 2 (by omega)⟩) (of_decide_eq_true (by kernel_rfl)) (fun n hn => hw n (by simp only [DataW.weights, Tryd.underlying37]; simp [DataW.weightsEach, hn])) t8
      obtain ⟨tl, a9, q9, rfl, b9, g9⟩ := row_in (α := Tt) (k := 4) (by omega) Tryd.underlying34 (by kernel_rfl) (fun a j t => ∃ b o u, a = some ⟨b, o, none⟩ ∧ W.cell? ⟨b, o + j * 4, none⟩ = some (.int .i64 t.tx) ∧ W.cell? ⟨b, o + j * 4 + 1, none⟩ = some (.int .i64 t.last) ∧ W.cell? ⟨b, o + j * 4 + 2, none⟩ = some (.bool t.com) ∧ W.cell? ⟨b, o + j * 4 + 3, none⟩ = some u ∧ IsI W u t.pages ∧ t.pages.length ≤ 9223372036854775807)
        (fun b o i cs fuel x hk hc ht => by
          obtain ⟨p, u, rfl, hu⟩ := tx_in ht
          exact ⟨p, b, o, u, rfl, hc 0 (by omega), hc 1 (by omega), hc 2 (by omega), hc 3 (by omega), hu⟩) (of_decide_eq_true (by kernel_rfl)) (fun n hn => hw n (by simp only [DataW.weights, Tryd.underlying37]; simp [DataW.weightsEach, hn])) t9
      obtain ⟨dl, a10, q10, rfl, b10, g10⟩ := row_in (α := Int × Int) (k := 2) (by omega) Tryd.underlying35 (by kernel_rfl) (fun a j d => ∃ b o, a = some ⟨b, o, none⟩ ∧ W.cell? ⟨b, o + j * 2, none⟩ = some (.int .i64 d.1) ∧ W.cell? ⟨b, o + j * 2 + 1, none⟩ = some (.int .i64 d.2))
        (fun b o i cs fuel x hk hc ht => by
          obtain ⟨p, rfl⟩ := dir_in ht
          exact ⟨p, b, o, rfl, hc 0 (by omega), hc 1 (by omega)⟩) (of_decide_eq_true (by kernel_rfl)) (fun n hn => hw n (by simp only [DataW.weights, Tryd.underlying37]; simp [DataW.weightsEach, hn])) t10
      exact ⟨⟨n0, n1, n2, n3, s4.data.toList, b5, old, l7, pl, tl, dl⟩, ⟨⟨c10, _, _, _, by simp [mk_of], k7, ⟨a8, q8, rfl, g8⟩, ⟨a9, q9, rfl, fun j h => by obtain ⟨b, o, u, z1, z2, z3, z4, z5, z6, _⟩ := g9 j h; exact ⟨b, o, u, z1, z2, z3, z4, z5, z6⟩⟩, ⟨a10, q10, rfl, g10⟩⟩, b8, b9⟩, k7', fun t ht => by
        obtain ⟨j, hj, rfl⟩ := List.getElem_of_mem ht
        obtain ⟨_, _, _, _, _, _, _, _, _, z⟩ := g9 j hj
        exact z⟩
set_option maxRecDepth 100000 in
theorem open_rec {H : Type} {enc : TypeId × Value → H} {W : World} {base : Nat} {v : Value} {d : DataW H} {p : List MemPlace} {ts : List TypeId} {ds : List (DataW H)} {j : Nat}
    (hsz : (DataW.weightsEach Tryd.prog ts ds).all (· ≤ reachBytes) = true) (ht : ts[j]? = some 37) (hd : ds[j]? = some d)
    (hval : Value.okWide Tryd.prog W .any base 37 v) (h : DataW.Trod enc Tryd.prog W 0 (fun _ => true) true 37 v d p) : ∃ r, IsRec W v r := by
  obtain ⟨cs, rfl, hsz2⟩ := okWide_struct Tryd.underlying37 hval
  obtain ⟨fuel, hf⟩ := h
  obtain ⟨r, hr, _⟩ := rec_in hf (fun n hn => by simpa using List.all_eq_true.1 hsz _ (DataW.weights_mem_each ht hd n hn))
  exact ⟨r, by simpa [Value.cells] using hr⟩
end Go.Proofs.YtofejnhnnmnfpaaDoor.Rc
