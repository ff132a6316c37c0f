/- Rows of pairs of the call's own. No condition. -/
import Derived.Test.YtakgehcfomfmdaaCAlive
import Derived.Test.YtakgehcfomfmdaaCOpen
import Derived.Deep.LoopGhost
namespace Go.Proofs.Ytakgehcfomfmdaa
open Go.RowKit

theorem infoPair : (Try.prog.info? 43).map (fun i => (i.zero, i.size, i.bytes)) = some (some (.agg #[.int .i64 0, .int .i64 0]), 2, 16) := by kernel_rfl
theorem pcells_one (E : List (Int × Int)) : ∀ u ∈ pcells E, u.oneCell' = true := by
  intro u hu
  obtain ⟨p, _, h⟩ := List.mem_flatMap.1 hu
  simp at h
  rcases h with rfl | rfl <;> rfl
theorem PAt.own {w : World} {base : Nat} {v : Value} {n : Nat} {E : List (Int × Int)} (h : w.ownsRow base 43 2 v n (pcells E)) (hw : PWf E) : ∃ a c, v = .slice a E.length c ∧ PAt w a E := by
  have hn : n = E.length := by have := h.1; rw [pcells_length] at this; omega
  subst hn
  rcases h.2 with ⟨rfl, h0⟩ | ⟨g, cap, cur, rfl, _⟩
  · exact ⟨none, 0, by rw [h0], fun j hj => by omega⟩
  · refine ⟨_, _, rfl, fun j hj => ?_⟩
    obtain ⟨g1, g2⟩ := pcells_get E j hj
    obtain ⟨w1, w2⟩ := hw _ (List.getElem_mem hj)
    refine ⟨g, 0, rfl, ?_, ?_, w1, w2⟩
    · rw [Nat.zero_add, h.cellAt (j * 2) (by omega)]; exact g1
    · rw [Nat.zero_add, h.cellAt (j * 2 + 1) (by omega)]; exact g2
theorem new_pair {w : World} {b' : Nat} {x y : Int} (t : TypeId) (hb : b' = w.heap.size) : ∀ j u, (pcells [(x, y)])[j]? = some u → (w.alloc (.cells #[.int .i64 x, .int .i64 y] t)).cell? (Addr.add ⟨b', 0, none⟩ j) = some u := by
  subst hb
  intro j u hj
  match j, hj with
  | 0, hj => cases hj; rw [Addr.add_lit]; exact cell_of (heap_alloc_new w _) rfl
  | 1, hj => cases hj; rw [Addr.add_lit]; exact cell_of (heap_alloc_new w _) rfl
  | n + 2, hj => simp [pcells] at hj
theorem PAt.pwf {w : World} {a : Option Addr} {E : List (Int × Int)} (h : PAt w a E) : PWf E := fun p hp => by
  obtain ⟨j, hj, rfl⟩ := List.getElem_of_mem hp
  obtain ⟨_, _, _, _, _, h3, h4⟩ := h j hj
  exact ⟨h3, h4⟩
theorem PWf.app {E F : List (Int × Int)} (h : PWf E) (k : PWf F) : PWf (E ++ F) := fun p hp => (List.mem_append.1 hp).elim (h p) (k p)
theorem PWf.one {x y : Int} (h : (Lit.int .i64 x).wf = true) (k : (Lit.int .i64 y).wf = true) : PWf [(x, y)] := fun p hp => by rw [List.mem_singleton.1 hp]; exact ⟨h, k⟩
theorem onl_none {E : List (Int × Int)} {s : Int} {l : List Int} (h : OnL E s l) (hn : ¬ Rt E s s) : l = [] := by
  by_cases e : l = []
  · exact e
  · exact absurd ((onl_some h).1 e) hn
theorem victim_n (a : Option Addr) (n c : Nat) (E : List (Int × Int)) (s : Int) (w : World) (hn : E.length = n) (hE : PAt w a E) (hl : n ≤ 1000000) (hs : (Lit.int .i64 s).wf = true) :
    Calls Try.prog 15 #[.int .i64 s, .slice a n c] w fun e w' => ∃ l, OnL E s l ∧ e = .returned (vicV l) ∧ Below w.heap.size w w' := by
  subst hn
  exact victim_any a c E s w hE hl hs
theorem on_n (a : Option Addr) (n c : Nat) (E : List (Int × Int)) (s : Int) (w : World) (hn : E.length = n) (hE : PAt w a E) (hl : n ≤ 1000000) (hs : (Lit.int .i64 s).wf = true) :
    Calls Try.prog 12 #[.int .i64 s, .slice a n c] w fun e w' => ∃ (v : Value) (l : List Int), e = .returned v ∧ OnL E s l ∧ w'.ownsRow w.heap.size 3 1 v l.length (icells l) ∧ IWf l ∧ l.length ≤ n ∧ Below w.heap.size w w' := by
  subst hn
  exact on_any a c E s w hE hl hs
theorem any_n (a : Option Addr) (n c : Nat) (E : List (Int × Int)) (w : World) (hn : E.length = n) (hE : PAt w a E) (hl : n ≤ 1000000) :
    Calls Try.prog 17 #[.slice a n c] w fun e w' => ∃ b : Bool, e = .returned (.bool b) ∧ (b = true ↔ ∃ x, Rt E x x) ∧ Below w.heap.size w w' := by
  subst hn
  exact any_any a c E w hE hl
end Go.Proofs.Ytakgehcfomfmdaa
