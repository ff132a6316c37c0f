/- The rows that Get of package record makes can be read. No condition. -/
import Derived.Test.YtikdjbcfckjccaaDoorRecT
namespace Go.Proofs.YtikdjbcfckjccaaDoor
open Go.RowKit
theorem flat_at {α : Type} (f : α → List Value) (m : Nat) (hf : ∀ a, (f a).length = m) : ∀ (l : List α) (j : Nat) (h : j < l.length) (i : Nat), i < m → (l.flatMap f)[j * m + i]? = (f l[j])[i]?
  | [], j, h, i, hi => by simp at h
  | a :: l, 0, h, i, hi => by
    rw [List.flatMap_cons, Nat.zero_mul, Nat.zero_add, List.getElem?_append_left (by rw [hf]; exact hi)]
    rfl
  | a :: l, j + 1, h, i, hi => by
    rw [List.flatMap_cons, List.getElem?_append_right (by rw [hf, Nat.succ_mul]; omega), hf]
    rw [show (j + 1) * m + i - m = j * m + i by rw [Nat.succ_mul]; omega]
    exact flat_at f m hf l j (by simpa using h) i hi
theorem row_at {w : World} {base : Nat} {e : TypeId} {m n : Nat} {v : Value} {xs : List Value} (h : w.ownsRow base e m v n xs) : ∃ a c, v = .slice a n c ∧ ∀ i u, xs[i]? = some u → ∃ b, a = some ⟨b, 0, none⟩ ∧ w.cell? ⟨b, i, none⟩ = some u := by
  obtain ⟨hl, h⟩ := h
  rcases h with ⟨rfl, rfl⟩ | ⟨g, cap, cur, rfl, _, hg, _, _, _, hx⟩
  · refine ⟨none, 0, rfl, fun i u hu => ?_⟩
    have : xs = [] := List.length_eq_zero_iff.1 (by rw [hl]; simp)
    subst this
    simp at hu
  · refine ⟨some ⟨g, 0, none⟩, cap, rfl, fun i u hu => ⟨g, rfl, ?_⟩⟩
    refine cell_of hg ?_
    rw [← hx] at hu
    rw [List.getElem?_take] at hu
    split at hu
    · rw [← Array.getElem?_toList]; exact hu
    · cases hu
section
variable {w : World} {base : Nat} {v : Value}
theorem isI_of_row {l : List Int} (h : w.ownsRow base 3 1 v l.length (icells l)) : IsI w v l := by
  obtain ⟨a, c, rfl, hr⟩ := row_at h
  refine ⟨a, c, rfl, fun j hj => ?_⟩
  obtain ⟨b, rfl, hb⟩ := hr j (.int .i64 l[j]) (by simp [icells, hj])
  exact ⟨b, 0, rfl, by rw [Nat.zero_add]; exact hb⟩
theorem isP_of_row {l : List Pt} (h : w.ownsRow base 39 3 v l.length (patcells l)) : IsP w v l := by
  obtain ⟨a, c, rfl, hr⟩ := row_at h
  refine ⟨a, c, rfl, fun j hj => ?_⟩
  have hf := flat_at (fun p : Pt => [.int .i64 p.page, .int .i64 p.at_, .string (mk p.bytes)]) 3 (fun _ => rfl) l j hj
  obtain ⟨b, rfl, h0⟩ := hr (j * 3 + 0) _ (hf 0 (by omega))
  obtain ⟨b', e1, h1⟩ := hr (j * 3 + 1) _ (hf 1 (by omega))
  obtain ⟨b'', e2, h2⟩ := hr (j * 3 + 2) _ (hf 2 (by omega))
  cases e1; cases e2
  exact ⟨b, 0, rfl, by rw [Nat.zero_add]; exact h0, by rw [Nat.zero_add]; exact h1, by rw [Nat.zero_add]; exact h2⟩
theorem isD_of_row {l : List (Int × Int)} (h : w.ownsRow base 55 2 v l.length (dircells l)) : IsD w v l := by
  obtain ⟨a, c, rfl, hr⟩ := row_at h
  refine ⟨a, c, rfl, fun j hj => ?_⟩
  have hf := flat_at (fun p : Int × Int => [.int .i64 p.1, .int .i64 p.2]) 2 (fun _ => rfl) l j hj
  obtain ⟨b, rfl, h0⟩ := hr (j * 2 + 0) _ (hf 0 (by omega))
  obtain ⟨b', e1, h1⟩ := hr (j * 2 + 1) _ (hf 1 (by omega))
  cases e1
  exact ⟨b, 0, rfl, by rw [Nat.zero_add]; exact h0, by rw [Nat.zero_add]; exact h1⟩
theorem isT_of_row {ps : List (Tt × Value)} {b1 : Nat} (h : w.ownsRow base 41 4 v ps.length (txcells ps)) (hn : Inner w b1 v ps) : IsT w v (ps.map (·.1)) := by
  obtain ⟨a, c, rfl, hr⟩ := row_at h
  refine ⟨a, c, by rw [List.length_map], fun j hj => ?_⟩
  have hj' : j < ps.length := by simpa using hj
  have hf := flat_at (fun p : Tt × Value => [.int .i64 p.1.tx, .int .i64 p.1.last, .bool p.1.com, p.2]) 4 (fun _ => rfl) ps j hj'
  obtain ⟨b, rfl, h0⟩ := hr (j * 4 + 0) _ (hf 0 (by omega))
  obtain ⟨b', e1, h1⟩ := hr (j * 4 + 1) _ (hf 1 (by omega))
  obtain ⟨b'', e2, h2⟩ := hr (j * 4 + 2) _ (hf 2 (by omega))
  obtain ⟨b3, e3, h3⟩ := hr (j * 4 + 3) _ (hf 3 (by omega))
  cases e1; cases e2; cases e3
  have hm : (ps.map (·.1))[j] = ps[j].1 := by simp
  exact ⟨b, 0, ps[j].2, rfl, by rw [hm, Nat.zero_add]; exact h0, by rw [hm, Nat.zero_add]; exact h1, by rw [hm, Nat.zero_add]; exact h2, by rw [Nat.zero_add]; exact h3, by rw [hm]; exact isI_of_row (hn _ (List.getElem_mem hj')).1⟩
end
/-- Fourteen cells are written. -/
theorem fill14 {w : World} {H : Nat} {t : TypeId} {z0 z1 z2 z3 z4 z5 z6 z7 z8 z9 z10 z11 z12 z13 : Value} (h : w.heap[H]? = some (.cells #[z0, z1, z2, z3, z4, z5, z6, z7, z8, z9, z10, z11, z12, z13] t (0, 0))) (v0 v1 v2 v3 v4 v5 v6 v7 v8 v9 v10 v11 v12 v13 : Value) : ((((((((((((((w.setCell ⟨H, 0, none⟩ v0).setCell ⟨H, 1, none⟩ v1).setCell ⟨H, 2, none⟩ v2).setCell ⟨H, 3, none⟩ v3).setCell ⟨H, 4, none⟩ v4).setCell ⟨H, 5, none⟩ v5).setCell ⟨H, 6, none⟩ v6).setCell ⟨H, 7, none⟩ v7).setCell ⟨H, 8, none⟩ v8).setCell ⟨H, 9, none⟩ v9).setCell ⟨H, 10, none⟩ v10).setCell ⟨H, 11, none⟩ v11).setCell ⟨H, 12, none⟩ v12).setCell ⟨H, 13, none⟩ v13).heap[H]? = some (.cells #[v0, v1, v2, v3, v4, v5, v6, v7, v8, v9, v10, v11, v12, v13] t (0, 0)) ∧ Chg (fun k => k = H) w ((((((((((((((w.setCell ⟨H, 0, none⟩ v0).setCell ⟨H, 1, none⟩ v1).setCell ⟨H, 2, none⟩ v2).setCell ⟨H, 3, none⟩ v3).setCell ⟨H, 4, none⟩ v4).setCell ⟨H, 5, none⟩ v5).setCell ⟨H, 6, none⟩ v6).setCell ⟨H, 7, none⟩ v7).setCell ⟨H, 8, none⟩ v8).setCell ⟨H, 9, none⟩ v9).setCell ⟨H, 10, none⟩ v10).setCell ⟨H, 11, none⟩ v11).setCell ⟨H, 12, none⟩ v12).setCell ⟨H, 13, none⟩ v13) := by
  have h0 : (w.setCell ⟨H, 0, none⟩ v0).heap[H]? = some (.cells #[v0, z1, z2, z3, z4, z5, z6, z7, z8, z9, z10, z11, z12, z13] t (0, 0)) := heap_setCell h v0
  have c0 : Chg (fun k => k = H) w (w.setCell ⟨H, 0, none⟩ v0) := (Chg.refl (fun k => k = H) w).setCell (a := ⟨H, 0, none⟩) (fun _ => rfl) v0
  clear h
  have h1 : ((w.setCell ⟨H, 0, none⟩ v0).setCell ⟨H, 1, none⟩ v1).heap[H]? = some (.cells #[v0, v1, z2, z3, z4, z5, z6, z7, z8, z9, z10, z11, z12, z13] t (0, 0)) := heap_setCell h0 v1
  have c1 : Chg (fun k => k = H) w ((w.setCell ⟨H, 0, none⟩ v0).setCell ⟨H, 1, none⟩ v1) := c0.setCell (a := ⟨H, 1, none⟩) (fun _ => rfl) v1
  clear h0 c0
  have h2 : (((w.setCell ⟨H, 0, none⟩ v0).setCell ⟨H, 1, none⟩ v1).setCell ⟨H, 2, none⟩ v2).heap[H]? = some (.cells #[v0, v1, v2, z3, z4, z5, z6, z7, z8, z9, z10, z11, z12, z13] t (0, 0)) := heap_setCell h1 v2
  have c2 : Chg (fun k => k = H) w (((w.setCell ⟨H, 0, none⟩ v0).setCell ⟨H, 1, none⟩ v1).setCell ⟨H, 2, none⟩ v2) := c1.setCell (a := ⟨H, 2, none⟩) (fun _ => rfl) v2
  clear h1 c1
  have h3 : ((((w.setCell ⟨H, 0, none⟩ v0).setCell ⟨H, 1, none⟩ v1).setCell ⟨H, 2, none⟩ v2).setCell ⟨H, 3, none⟩ v3).heap[H]? = some (.cells #[v0, v1, v2, v3, z4, z5, z6, z7, z8, z9, z10, z11, z12, z13] t (0, 0)) := heap_setCell h2 v3
  have c3 : Chg (fun k => k = H) w ((((w.setCell ⟨H, 0, none⟩ v0).setCell ⟨H, 1, none⟩ v1).setCell ⟨H, 2, none⟩ v2).setCell ⟨H, 3, none⟩ v3) := c2.setCell (a := ⟨H, 3, none⟩) (fun _ => rfl) v3
  clear h2 c2
  have h4 : (((((w.setCell ⟨H, 0, none⟩ v0).setCell ⟨H, 1, none⟩ v1).setCell ⟨H, 2, none⟩ v2).setCell ⟨H, 3, none⟩ v3).setCell ⟨H, 4, none⟩ v4).heap[H]? = some (.cells #[v0, v1, v2, v3, v4, z5, z6, z7, z8, z9, z10, z11, z12, z13] t (0, 0)) := heap_setCell h3 v4
  have c4 : Chg (fun k => k = H) w (((((w.setCell ⟨H, 0, none⟩ v0).setCell ⟨H, 1, none⟩ v1).setCell ⟨H, 2, none⟩ v2).setCell ⟨H, 3, none⟩ v3).setCell ⟨H, 4, none⟩ v4) := c3.setCell (a := ⟨H, 4, none⟩) (fun _ => rfl) v4
  clear h3 c3
  have h5 : ((((((w.setCell ⟨H, 0, none⟩ v0).setCell ⟨H, 1, none⟩ v1).setCell ⟨H, 2, none⟩ v2).setCell ⟨H, 3, none⟩ v3).setCell ⟨H, 4, none⟩ v4).setCell ⟨H, 5, none⟩ v5).heap[H]? = some (.cells #[v0, v1, v2, v3, v4, v5, z6, z7, z8, z9, z10, z11, z12, z13] t (0, 0)) := heap_setCell h4 v5
  have c5 : Chg (fun k => k = H) w ((((((w.setCell ⟨H, 0, none⟩ v0).setCell ⟨H, 1, none⟩ v1).setCell ⟨H, 2, none⟩ v2).setCell ⟨H, 3, none⟩ v3).setCell ⟨H, 4, none⟩ v4).setCell ⟨H, 5, none⟩ v5) := c4.setCell (a := ⟨H, 5, none⟩) (fun _ => rfl) v5
  clear h4 c4
  have h6 : (((((((w.setCell ⟨H, 0, none⟩ v0).setCell ⟨H, 1, none⟩ v1).setCell ⟨H, 2, none⟩ v2).setCell ⟨H, 3, none⟩ v3).setCell ⟨H, 4, none⟩ v4).setCell ⟨H, 5, none⟩ v5).setCell ⟨H, 6, none⟩ v6).heap[H]? = some (.cells #[v0, v1, v2, v3, v4, v5, v6, z7, z8, z9, z10, z11, z12, z13] t (0, 0)) := heap_setCell h5 v6
  have c6 : Chg (fun k => k = H) w (((((((w.setCell ⟨H, 0, none⟩ v0).setCell ⟨H, 1, none⟩ v1).setCell ⟨H, 2, none⟩ v2).setCell ⟨H, 3, none⟩ v3).setCell ⟨H, 4, none⟩ v4).setCell ⟨H, 5, none⟩ v5).setCell ⟨H, 6, none⟩ v6) := c5.setCell (a := ⟨H, 6, none⟩) (fun _ => rfl) v6
  clear h5 c5
  have h7 : ((((((((w.setCell ⟨H, 0, none⟩ v0).setCell ⟨H, 1, none⟩ v1).setCell ⟨H, 2, none⟩ v2).setCell ⟨H, 3, none⟩ v3).setCell ⟨H, 4, none⟩ v4).setCell ⟨H, 5, none⟩ v5).setCell ⟨H, 6, none⟩ v6).setCell ⟨H, 7, none⟩ v7).heap[H]? = some (.cells #[v0, v1, v2, v3, v4, v5, v6, v7, z8, z9, z10, z11, z12, z13] t (0, 0)) := heap_setCell h6 v7
  have c7 : Chg (fun k => k = H) w ((((((((w.setCell ⟨H, 0, none⟩ v0).setCell ⟨H, 1, none⟩ v1).setCell ⟨H, 2, none⟩ v2).setCell ⟨H, 3, none⟩ v3).setCell ⟨H, 4, none⟩ v4).setCell ⟨H, 5, none⟩ v5).setCell ⟨H, 6, none⟩ v6).setCell ⟨H, 7, none⟩ v7) := c6.setCell (a := ⟨H, 7, none⟩) (fun _ => rfl) v7
  clear h6 c6
  have h8 : (((((((((w.setCell ⟨H, 0, none⟩ v0).setCell ⟨H, 1, none⟩ v1).setCell ⟨H, 2, none⟩ v2).setCell ⟨H, 3, none⟩ v3).setCell ⟨H, 4, none⟩ v4).setCell ⟨H, 5, none⟩ v5).setCell ⟨H, 6, none⟩ v6).setCell ⟨H, 7, none⟩ v7).setCell ⟨H, 8, none⟩ v8).heap[H]? = some (.cells #[v0, v1, v2, v3, v4, v5, v6, v7, v8, z9, z10, z11, z12, z13] t (0, 0)) := heap_setCell h7 v8
  have c8 : Chg (fun k => k = H) w (((((((((w.setCell ⟨H, 0, none⟩ v0).setCell ⟨H, 1, none⟩ v1).setCell ⟨H, 2, none⟩ v2).setCell ⟨H, 3, none⟩ v3).setCell ⟨H, 4, none⟩ v4).setCell ⟨H, 5, none⟩ v5).setCell ⟨H, 6, none⟩ v6).setCell ⟨H, 7, none⟩ v7).setCell ⟨H, 8, none⟩ v8) := c7.setCell (a := ⟨H, 8, none⟩) (fun _ => rfl) v8
  clear h7 c7
  have h9 : ((((((((((w.setCell ⟨H, 0, none⟩ v0).setCell ⟨H, 1, none⟩ v1).setCell ⟨H, 2, none⟩ v2).setCell ⟨H, 3, none⟩ v3).setCell ⟨H, 4, none⟩ v4).setCell ⟨H, 5, none⟩ v5).setCell ⟨H, 6, none⟩ v6).setCell ⟨H, 7, none⟩ v7).setCell ⟨H, 8, none⟩ v8).setCell ⟨H, 9, none⟩ v9).heap[H]? = some (.cells #[v0, v1, v2, v3, v4, v5, v6, v7, v8, v9, z10, z11, z12, z13] t (0, 0)) := heap_setCell h8 v9
  have c9 : Chg (fun k => k = H) w ((((((((((w.setCell ⟨H, 0, none⟩ v0).setCell ⟨H, 1, none⟩ v1).setCell ⟨H, 2, none⟩ v2).setCell ⟨H, 3, none⟩ v3).setCell ⟨H, 4, none⟩ v4).setCell ⟨H, 5, none⟩ v5).setCell ⟨H, 6, none⟩ v6).setCell ⟨H, 7, none⟩ v7).setCell ⟨H, 8, none⟩ v8).setCell ⟨H, 9, none⟩ v9) := c8.setCell (a := ⟨H, 9, none⟩) (fun _ => rfl) v9
  clear h8 c8
  have h10 : (((((((((((w.setCell ⟨H, 0, none⟩ v0).setCell ⟨H, 1, none⟩ v1).setCell ⟨H, 2, none⟩ v2).setCell ⟨H, 3, none⟩ v3).setCell ⟨H, 4, none⟩ v4).setCell ⟨H, 5, none⟩ v5).setCell ⟨H, 6, none⟩ v6).setCell ⟨H, 7, none⟩ v7).setCell ⟨H, 8, none⟩ v8).setCell ⟨H, 9, none⟩ v9).setCell ⟨H, 10, none⟩ v10).heap[H]? = some (.cells #[v0, v1, v2, v3, v4, v5, v6, v7, v8, v9, v10, z11, z12, z13] t (0, 0)) := heap_setCell h9 v10
  have c10 : Chg (fun k => k = H) w (((((((((((w.setCell ⟨H, 0, none⟩ v0).setCell ⟨H, 1, none⟩ v1).setCell ⟨H, 2, none⟩ v2).setCell ⟨H, 3, none⟩ v3).setCell ⟨H, 4, none⟩ v4).setCell ⟨H, 5, none⟩ v5).setCell ⟨H, 6, none⟩ v6).setCell ⟨H, 7, none⟩ v7).setCell ⟨H, 8, none⟩ v8).setCell ⟨H, 9, none⟩ v9).setCell ⟨H, 10, none⟩ v10) := c9.setCell (a := ⟨H, 10, none⟩) (fun _ => rfl) v10
  clear h9 c9
  have h11 : ((((((((((((w.setCell ⟨H, 0, none⟩ v0).setCell ⟨H, 1, none⟩ v1).setCell ⟨H, 2, none⟩ v2).setCell ⟨H, 3, none⟩ v3).setCell ⟨H, 4, none⟩ v4).setCell ⟨H, 5, none⟩ v5).setCell ⟨H, 6, none⟩ v6).setCell ⟨H, 7, none⟩ v7).setCell ⟨H, 8, none⟩ v8).setCell ⟨H, 9, none⟩ v9).setCell ⟨H, 10, none⟩ v10).setCell ⟨H, 11, none⟩ v11).heap[H]? = some (.cells #[v0, v1, v2, v3, v4, v5, v6, v7, v8, v9, v10, v11, z12, z13] t (0, 0)) := heap_setCell h10 v11
  have c11 : Chg (fun k => k = H) w ((((((((((((w.setCell ⟨H, 0, none⟩ v0).setCell ⟨H, 1, none⟩ v1).setCell ⟨H, 2, none⟩ v2).setCell ⟨H, 3, none⟩ v3).setCell ⟨H, 4, none⟩ v4).setCell ⟨H, 5, none⟩ v5).setCell ⟨H, 6, none⟩ v6).setCell ⟨H, 7, none⟩ v7).setCell ⟨H, 8, none⟩ v8).setCell ⟨H, 9, none⟩ v9).setCell ⟨H, 10, none⟩ v10).setCell ⟨H, 11, none⟩ v11) := c10.setCell (a := ⟨H, 11, none⟩) (fun _ => rfl) v11
  clear h10 c10
  have h12 : (((((((((((((w.setCell ⟨H, 0, none⟩ v0).setCell ⟨H, 1, none⟩ v1).setCell ⟨H, 2, none⟩ v2).setCell ⟨H, 3, none⟩ v3).setCell ⟨H, 4, none⟩ v4).setCell ⟨H, 5, none⟩ v5).setCell ⟨H, 6, none⟩ v6).setCell ⟨H, 7, none⟩ v7).setCell ⟨H, 8, none⟩ v8).setCell ⟨H, 9, none⟩ v9).setCell ⟨H, 10, none⟩ v10).setCell ⟨H, 11, none⟩ v11).setCell ⟨H, 12, none⟩ v12).heap[H]? = some (.cells #[v0, v1, v2, v3, v4, v5, v6, v7, v8, v9, v10, v11, v12, z13] t (0, 0)) := heap_setCell h11 v12
  have c12 : Chg (fun k => k = H) w (((((((((((((w.setCell ⟨H, 0, none⟩ v0).setCell ⟨H, 1, none⟩ v1).setCell ⟨H, 2, none⟩ v2).setCell ⟨H, 3, none⟩ v3).setCell ⟨H, 4, none⟩ v4).setCell ⟨H, 5, none⟩ v5).setCell ⟨H, 6, none⟩ v6).setCell ⟨H, 7, none⟩ v7).setCell ⟨H, 8, none⟩ v8).setCell ⟨H, 9, none⟩ v9).setCell ⟨H, 10, none⟩ v10).setCell ⟨H, 11, none⟩ v11).setCell ⟨H, 12, none⟩ v12) := c11.setCell (a := ⟨H, 12, none⟩) (fun _ => rfl) v12
  clear h11 c11
  have h13 : ((((((((((((((w.setCell ⟨H, 0, none⟩ v0).setCell ⟨H, 1, none⟩ v1).setCell ⟨H, 2, none⟩ v2).setCell ⟨H, 3, none⟩ v3).setCell ⟨H, 4, none⟩ v4).setCell ⟨H, 5, none⟩ v5).setCell ⟨H, 6, none⟩ v6).setCell ⟨H, 7, none⟩ v7).setCell ⟨H, 8, none⟩ v8).setCell ⟨H, 9, none⟩ v9).setCell ⟨H, 10, none⟩ v10).setCell ⟨H, 11, none⟩ v11).setCell ⟨H, 12, none⟩ v12).setCell ⟨H, 13, none⟩ v13).heap[H]? = some (.cells #[v0, v1, v2, v3, v4, v5, v6, v7, v8, v9, v10, v11, v12, v13] t (0, 0)) := heap_setCell h12 v13
  have c13 : Chg (fun k => k = H) w ((((((((((((((w.setCell ⟨H, 0, none⟩ v0).setCell ⟨H, 1, none⟩ v1).setCell ⟨H, 2, none⟩ v2).setCell ⟨H, 3, none⟩ v3).setCell ⟨H, 4, none⟩ v4).setCell ⟨H, 5, none⟩ v5).setCell ⟨H, 6, none⟩ v6).setCell ⟨H, 7, none⟩ v7).setCell ⟨H, 8, none⟩ v8).setCell ⟨H, 9, none⟩ v9).setCell ⟨H, 10, none⟩ v10).setCell ⟨H, 11, none⟩ v11).setCell ⟨H, 12, none⟩ v12).setCell ⟨H, 13, none⟩ v13) := c12.setCell (a := ⟨H, 13, none⟩) (fun _ => rfl) v13
  clear h12 c12
  exact ⟨h13, c13⟩
end Go.Proofs.YtikdjbcfckjccaaDoor
