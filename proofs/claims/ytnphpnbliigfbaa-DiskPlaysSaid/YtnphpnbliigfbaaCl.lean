/- slices.Clone of texts, of pending writes: a row of its own, alike. No condition. -/
import Derived.Test.YtnphpnbliigfbaaLd
import Derived.Lib.SliceRun
namespace Go.Proofs.Ytnphpnbliigfbaa
open Go.RowKit

theorem row_empty (w : World) (e : TypeId) (size : Nat) : (w.alloc (.cells #[] e)).ownsRow w.heap.size e size (.slice (some ⟨w.heap.size, 0, none⟩) 0 0) 0 [] := by
  refine ⟨by simp, .inr ⟨w.heap.size, 0, #[], rfl, Nat.le_refl _, heap_alloc_new w _, Nat.le_refl _, Nat.zero_le _, by simp, by simp⟩⟩
theorem own_at {w : World} {base : Nat} {e : TypeId} {size n cap : Nat} {a : Addr} {xs : List Value} (h : w.ownsRow base e size (.slice (some a) n cap) n xs) : ∃ g, a = ⟨g, 0, none⟩ ∧ g < w.heap.size ∧ ∀ j u, xs[j]? = some u → w.cell? ((⟨g, 0, none⟩ : Addr).add j) = some u := by
  have hcells := fun (g : Nat) => h.cells (g := g)
  rcases h.2 with ⟨h0, _⟩ | ⟨g, c, cur, hv, _, hg, _⟩
  · cases h0
  · simp only [Value.slice.injEq, Option.some.injEq, true_and] at hv
    obtain ⟨rfl, rfl⟩ := hv
    exact ⟨g, rfl, lt_of hg, fun j u hu => hcells g (by simp [Value.ownBlock]) j u hu⟩

theorem cells_alloc {w : World} {g : Nat} {xs : List Value} (hg : g < w.heap.size) (hc : ∀ j u, xs[j]? = some u → w.cell? ((⟨g, 0, none⟩ : Addr).add j) = some u) (o : Obj) : ∀ j u, xs[j]? = some u → (w.alloc o).cell? ((⟨g, 0, none⟩ : Addr).add j) = some u := by
  intro j u hu
  have h := hc j u hu
  rw [Addr.add_lit] at h ⊢
  exact (World.cell?_of_block (w := w) (((Chg.refl (fun _ => False) w).alloc o).block g hg (fun h => h))).trans h
section
variable {w : World} {v : Value} {n : Nat} {xs : List Value}
theorem clone_str (h : w.ownsRow 0 9 1 v n xs) (hn : n ≤ 10000) (h1 : ∀ u ∈ xs, u.oneCell' = true) : Calls Try.prog 35 #[v] w fun e w' => ∃ v', e = .returned v' ∧ w'.ownsRow w.heap.size 9 1 v' n xs ∧ Chg (fun _ => False) w w' := by
  obtain ⟨i, hi, hz0, hz1, hz2⟩ := info_parts Try.infoStr
  obtain ⟨ao, l, c, rfl, rfl⟩ := own_form h
  cases ao with
  | none =>
    have h0 : l = 0 ∧ c = 0 := by
      rcases h.2 with ⟨h0, h1⟩ | ⟨g, c, cur, hv, _⟩
      · simp at h0; exact h0
      · cases hv
    obtain ⟨rfl, rfl⟩ := h0
    have hxs : xs = [] := List.eq_nil_of_length_eq_zero (by have := h.1; omega)
    subst hxs
    have hen := fun (w : World) (a : Option Addr) (n c : Nat) => Lib.run_eql_slice_nil (P := Try.prog) w 36 9 a n c 0 0 Try.underlying36
    go_enter Try.func35, Try.ntmps35
    go_wp2
    go_ret
    exact ⟨_, rfl, World.ownsRow_nil _ _ _ _, Chg.refl _ _⟩
  | some a =>
    obtain ⟨g, rfl, hg, hc⟩ := own_at h
    have hlen := h.1
    have hlen' : xs.length = l * 1 := hlen
    have hen := fun (w : World) (a : Option Addr) (n c : Nat) => Lib.run_eql_slice_nil (P := Try.prog) w 36 9 a n c 0 0 Try.underlying36
    go_enter Try.func35, Try.ntmps35
    go_wp2_with (at_builtin; refine wpList_append_own' rfl (.tmp 5) (.tmp 6) 36 rfl w.heap.size 9 i (.string ByteArray.empty) 1 16 Try.underlying36 hi hz0 hz1 hz2 rfl (by decide) _ 0 [] rfl (row_empty w 9 1) ⟨g, 0, none⟩ l c xs rfl hlen' (cells_alloc hg hc _) h1 (by unfold maxLen; omega) (by omega) (by simp) ?_; intro v' w1 hown' hgrow hrow; have hfin : w1.ownsRow w.heap.size 9 1 v' l xs ∧ Chg (fun _ => False) w w1 := ⟨by simpa using hown', ((Chg.refl (fun _ => False) w).alloc _).grown hgrow (fun k hk e => by cases e; exact absurd hk (Nat.lt_irrefl _))⟩; clear hown' hgrow hrow)
    go_ret
    exact ⟨_, rfl, hfin⟩
theorem clone_wr (h : w.ownsRow 0 62 2 v n xs) (hn : n ≤ 1000000) (h1 : ∀ u ∈ xs, u.oneCell' = true) : Calls Try.prog 36 #[v] w fun e w' => ∃ v', e = .returned v' ∧ w'.ownsRow w.heap.size 62 2 v' n xs ∧ Chg (fun _ => False) w w' := by
  obtain ⟨i, hi, hz0, hz1, hz2⟩ := info_parts Try.infoWr
  obtain ⟨ao, l, c, rfl, rfl⟩ := own_form h
  cases ao with
  | none =>
    have h0 : l = 0 ∧ c = 0 := by
      rcases h.2 with ⟨h0, h1⟩ | ⟨g, c, cur, hv, _⟩
      · simp at h0; exact h0
      · cases hv
    obtain ⟨rfl, rfl⟩ := h0
    have hxs : xs = [] := List.eq_nil_of_length_eq_zero (by have := h.1; omega)
    subst hxs
    have hen := fun (w : World) (a : Option Addr) (n c : Nat) => Lib.run_eql_slice_nil (P := Try.prog) w 57 62 a n c 0 0 Try.underlying57
    go_enter Try.func36, Try.ntmps36
    go_wp2
    go_ret
    exact ⟨_, rfl, World.ownsRow_nil _ _ _ _, Chg.refl _ _⟩
  | some a =>
    obtain ⟨g, rfl, hg, hc⟩ := own_at h
    have hlen := h.1
    have hlen' : xs.length = l * 2 := hlen
    have hen := fun (w : World) (a : Option Addr) (n c : Nat) => Lib.run_eql_slice_nil (P := Try.prog) w 57 62 a n c 0 0 Try.underlying57
    go_enter Try.func36, Try.ntmps36
    go_wp2_with (at_builtin; refine wpList_append_own' rfl (.tmp 5) (.tmp 6) 57 rfl w.heap.size 62 i (.agg #[.int .i64 0, .string ByteArray.empty]) 2 24 Try.underlying57 hi hz0 hz1 hz2 rfl (by decide) _ 0 [] rfl (row_empty w 62 2) ⟨g, 0, none⟩ l c xs rfl hlen' (cells_alloc hg hc _) h1 (by unfold maxLen; omega) (by omega) (by simp) ?_; intro v' w1 hown' hgrow hrow; have hfin : w1.ownsRow w.heap.size 62 2 v' l xs ∧ Chg (fun _ => False) w w1 := ⟨by simpa using hown', ((Chg.refl (fun _ => False) w).alloc _).grown hgrow (fun k hk e => by cases e; exact absurd hk (Nat.lt_irrefl _))⟩; clear hown' hgrow hrow)
    go_ret
    exact ⟨_, rfl, hfin⟩
end
end Go.Proofs.Ytnphpnbliigfbaa
