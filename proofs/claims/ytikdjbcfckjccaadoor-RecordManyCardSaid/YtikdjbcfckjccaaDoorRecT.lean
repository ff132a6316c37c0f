/- Rows of transactions that Get of package record makes: each holds a row of its own. No condition. -/
import Derived.Test.YtikdjbcfckjccaaDoorRecI
namespace Go.Proofs.YtikdjbcfckjccaaDoor
open Go.RowKit
theorem infoTx : (Tryd.prog.info? 41).map (fun i => (i.zero, i.size, i.bytes)) = some (some (.agg #[.int .i64 0, .int .i64 0, .bool false, .slice none 0 0]), 4, 48) := by kernel_rfl
theorem infoDir : (Tryd.prog.info? 55).map (fun i => (i.zero, i.size, i.bytes)) = some (some (.agg #[.int .i64 0, .int .i64 0]), 2, 16) := by kernel_rfl
def txcells (l : List (Tt × Value)) : List Value := l.flatMap fun p => [.int .i64 p.1.tx, .int .i64 p.1.last, .bool p.1.com, p.2]
theorem txcells_append (l m : List (Tt × Value)) : txcells (l ++ m) = txcells l ++ txcells m := by simp [txcells]
def dircells (l : List (Int × Int)) : List Value := l.flatMap fun p => [.int .i64 p.1, .int .i64 p.2]
theorem dircells_append (l m : List (Int × Int)) : dircells (l ++ m) = dircells l ++ dircells m := by simp [dircells]
theorem new_four {w : World} {b' : Nat} {x y z u : Value} (t : TypeId) (hb : b' = w.heap.size) : ∀ j r, [x, y, z, u][j]? = some r → (w.alloc (.cells #[x, y, z, u] t)).cell? (Addr.add ⟨b', 0, none⟩ j) = some r := by
  subst hb
  intro j r hj
  match j, hj with
  | 0, hj => cases hj; rw [Addr.add_lit]; exact cell_of (heap_alloc_new w _) rfl
  | 1, hj => cases hj; rw [Addr.add_lit]; exact cell_of (heap_alloc_new w _) rfl
  | 2, hj => cases hj; rw [Addr.add_lit]; exact cell_of (heap_alloc_new w _) rfl
  | 3, hj => cases hj; rw [Addr.add_lit]; exact cell_of (heap_alloc_new w _) rfl
  | n + 4, hj => simp at hj
theorem new_both {w : World} {b' : Nat} {x y : Value} (t : TypeId) (hb : b' = w.heap.size) : ∀ j r, [x, y][j]? = some r → (w.alloc (.cells #[x, y] t)).cell? (Addr.add ⟨b', 0, none⟩ j) = some r := by
  subst hb
  intro j r hj
  match j, hj with
  | 0, hj => cases hj; rw [Addr.add_lit]; exact cell_of (heap_alloc_new w _) rfl
  | 1, hj => cases hj; rw [Addr.add_lit]; exact cell_of (heap_alloc_new w _) rfl
  | n + 2, hj => simp at hj
/-- The rows that the rows hold. -/
def Inner (w : World) (base : Nat) (v : Value) (ps : List (Tt × Value)) : Prop := ∀ p ∈ ps, w.ownsRow base 3 1 p.2 p.1.pages.length (icells p.1.pages) ∧ ∀ k, p.2.ownBlock = some k → v.ownBlock ≠ some k
theorem Inner.chg {S : Nat → Prop} {w w' : World} {base : Nat} {v : Value} {ps : List (Tt × Value)} (h : Inner w base v ps) (hc : Chg S w w') (hs : ∀ p ∈ ps, ∀ k, p.2.ownBlock = some k → ¬ S k) : Inner w' base v ps :=
  fun p hp => ⟨hc.row (h p hp).1 (hs p hp), (h p hp).2⟩
/-- One more, where the outer row stays where it is or is new. -/
theorem Inner.turn {w : World} {base m : Nat} {v v' : Value} {ps : List (Tt × Value)} (h : Inner w base v ps) (hm : ∀ p ∈ ps, ∀ k, p.2.ownBlock = some k → k < m) (hv : v'.ownBlock = v.ownBlock ∨ ∀ k, v'.ownBlock = some k → m ≤ k) : Inner w base v' ps := by
  intro p hp
  refine ⟨(h p hp).1, fun k hk e => ?_⟩
  rcases hv with hv | hv
  · exact (h p hp).2 k hk (hv ▸ e)
  · have := hv k e; have := hm p hp k hk; omega
theorem Inner.push {w : World} {base : Nat} {v u : Value} {ps : List (Tt × Value)} {t : Tt} (h : Inner w base v ps) (ho : w.ownsRow base 3 1 u t.pages.length (icells t.pages)) (hn : ∀ k, u.ownBlock = some k → v.ownBlock ≠ some k) : Inner w base v (ps ++ [(t, u)]) := by
  intro p hp
  rw [List.mem_append] at hp
  rcases hp with hp | hp
  · exact h p hp
  · rw [List.mem_singleton] at hp; subst hp; exact ⟨ho, hn⟩
theorem Inner.lt {w : World} {base : Nat} {v : Value} {ps : List (Tt × Value)} (h : Inner w base v ps) : ∀ p ∈ ps, ∀ k, p.2.ownBlock = some k → base ≤ k ∧ k < w.heap.size := fun p hp k hk => (h p hp).1.lt k hk
theorem inner_nil (w : World) (base : Nat) (v : Value) : Inner w base v [] := fun p hp => by cases hp
end Go.Proofs.YtikdjbcfckjccaaDoor
