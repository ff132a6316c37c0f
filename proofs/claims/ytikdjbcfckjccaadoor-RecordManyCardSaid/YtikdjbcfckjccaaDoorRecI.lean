/- What Get of package record has in memory while it reads: the record, a round's variable, rows. No condition. -/
import Derived.Test.YtikdjbcfckjccaaDoorRecG
import Derived.Test.YtikdjbcfckjccaaDoorRecS
namespace Go.Proofs.YtikdjbcfckjccaaDoor
open Go.RowKit
attribute [local go_sem] run_store_func
/-- In Get: the reader, the variable that has it, its Num, the record that is read; the record that was made for the answer. -/
structure GS (w0 w : World) (cs : Array Value) (s : Rs) : Prop where
  rd : RAt w (w0.heap.size + 1) s.1 s.2
  rcc : w.heap[w0.heap.size + 1 + 1]? = some (.cells #[.pointer (some ⟨w0.heap.size + 1, 0, none⟩)] 49 (0, 0))
  nc : w.heap[w0.heap.size + 1 + 1 + 1]? = some (.cells #[.func (.func 19) #[.pointer (some ⟨w0.heap.size + 1, 0, none⟩)] #[]] 51 (0, 0))
  xc : w.heap[w0.heap.size + 1 + 1 + 1 + 1]? = some (.cells cs 29 (0, 0))
  res : w.heap[w0.heap.size]? = some (.cells #[.int .i64 0, .int .i64 0, .int .i64 0, .int .i64 0, .string ⟨#[]⟩, .bool false, .string ⟨#[]⟩, .string ⟨#[]⟩, .int .i64 0, .int .i64 0, .slice none 0 0, .slice none 0 0, .slice none 0 0, .slice none 0 0] 29 (0, 0))
  bel : Below w0.heap.size w0 w
section
variable {w0 w w' : World} {cs : Array Value} {s s' : Rs}
theorem GS.call (h : GS w0 w cs s) (hr : RAt w' (w0.heap.size + 1) s'.1 s'.2) (hc : Chg (fun k => k = w0.heap.size + 1) w w') : GS w0 w' cs s' :=
  ⟨hr, hc.heap h.rcc (by omega), hc.heap h.nc (by omega), hc.heap h.xc (by omega), hc.heap h.res (by omega), h.bel.trans (hc.below (fun k _ e => by omega) h.bel.size)⟩
theorem GS.set (h : GS w0 w cs s) (i : Nat) (v : Value) {cs' : Array Value} (e : cs' = cs.setIfInBounds i v) : GS w0 (w.setCell ⟨w0.heap.size + 1 + 1 + 1 + 1, i, none⟩ v) cs' s := by
  subst e
  have hc : Chg (fun k => k = w0.heap.size + 1 + 1 + 1 + 1) w (w.setCell ⟨w0.heap.size + 1 + 1 + 1 + 1, i, none⟩ v) := (Chg.refl (fun k => k = w0.heap.size + 1 + 1 + 1 + 1) w).setCell (a := ⟨w0.heap.size + 1 + 1 + 1 + 1, i, none⟩) (fun _ => rfl) v
  exact ⟨hc.heap h.rd (by omega), hc.heap h.rcc (by omega), hc.heap h.nc (by omega), heap_setCell h.xc v, hc.heap h.res (by omega), h.bel.trans (hc.below (fun k _ e => by omega) h.bel.size)⟩
theorem GS.more (h : GS w0 w cs s) (hb : Below w.heap.size w w') : GS w0 w' cs s := by
  have hc : Chg (fun _ => False) w w' := Chg.of_below hb
  exact ⟨hc.heap h.rd id, hc.heap h.rcc id, hc.heap h.nc id, hc.heap h.xc id, hc.heap h.res id, h.bel.trans (hc.below (fun _ _ h => h.elim) h.bel.size)⟩
theorem GS.num (h : GS w0 w cs s) : w.cell? ⟨w0.heap.size + 1 + 1 + 1, 0, none⟩ = some (.func (.func 19) #[.pointer (some ⟨w0.heap.size + 1, 0, none⟩)] #[]) ∧ w0.heap.size + 1 + 1 + 1 + 1 < w.heap.size := ⟨cell_of h.nc rfl, lt_of h.xc⟩
theorem GS.cell (h : GS w0 w cs s) (i : Nat) {c : Value} (e : cs[i]? = some c) : w.cell? ⟨w0.heap.size + 1 + 1 + 1 + 1, i, none⟩ = some c ∧ w.frozen? ⟨w0.heap.size + 1 + 1 + 1 + 1, i, none⟩ = false := ⟨cell_of h.xc e, free_of h.xc⟩
theorem gs_start (b : List UInt8) (w : World) : GS w (((((w.alloc (.cells #[.int .i64 0, .int .i64 0, .int .i64 0, .int .i64 0, .string ⟨#[]⟩, .bool false, .string ⟨#[]⟩, .string ⟨#[]⟩, .int .i64 0, .int .i64 0, .slice none 0 0, .slice none 0 0, .slice none 0 0, .slice none 0 0] 29)).alloc (.cells #[.string (mk b), .bool false] 76)).alloc (.cells #[.pointer (some ⟨w.heap.size + 1, 0, none⟩)] 49)).alloc (.cells #[.func (.func 19) #[.pointer (some ⟨w.heap.size + 1, 0, none⟩)] #[]] 51)).alloc (.cells #[.int .i64 0, .int .i64 0, .int .i64 0, .int .i64 0, .string ⟨#[]⟩, .bool false, .string ⟨#[]⟩, .string ⟨#[]⟩, .int .i64 0, .int .i64 0, .slice none 0 0, .slice none 0 0, .slice none 0 0, .slice none 0 0] 29)).drew #[.int .i64 0, .int .i64 0, .int .i64 0, .int .i64 0, .string ⟨#[]⟩, .bool false, .string ⟨#[]⟩, .string ⟨#[]⟩, .int .i64 0, .int .i64 0, .slice none 0 0, .slice none 0 0, .slice none 0 0, .slice none 0 0] (b, false) := by
  have h0 := heap_alloc_new w (.cells #[.int .i64 0, .int .i64 0, .int .i64 0, .int .i64 0, .string ⟨#[]⟩, .bool false, .string ⟨#[]⟩, .string ⟨#[]⟩, .int .i64 0, .int .i64 0, .slice none 0 0, .slice none 0 0, .slice none 0 0, .slice none 0 0] 29)
  have h1 := heap_alloc_new (w.alloc (.cells #[.int .i64 0, .int .i64 0, .int .i64 0, .int .i64 0, .string ⟨#[]⟩, .bool false, .string ⟨#[]⟩, .string ⟨#[]⟩, .int .i64 0, .int .i64 0, .slice none 0 0, .slice none 0 0, .slice none 0 0, .slice none 0 0] 29)) (.cells #[.string (mk b), .bool false] 76)
  have h2 := heap_alloc_new ((w.alloc (.cells #[.int .i64 0, .int .i64 0, .int .i64 0, .int .i64 0, .string ⟨#[]⟩, .bool false, .string ⟨#[]⟩, .string ⟨#[]⟩, .int .i64 0, .int .i64 0, .slice none 0 0, .slice none 0 0, .slice none 0 0, .slice none 0 0] 29)).alloc (.cells #[.string (mk b), .bool false] 76)) (.cells #[.pointer (some ⟨w.heap.size + 1, 0, none⟩)] 49)
  have h3 := heap_alloc_new (((w.alloc (.cells #[.int .i64 0, .int .i64 0, .int .i64 0, .int .i64 0, .string ⟨#[]⟩, .bool false, .string ⟨#[]⟩, .string ⟨#[]⟩, .int .i64 0, .int .i64 0, .slice none 0 0, .slice none 0 0, .slice none 0 0, .slice none 0 0] 29)).alloc (.cells #[.string (mk b), .bool false] 76)).alloc (.cells #[.pointer (some ⟨w.heap.size + 1, 0, none⟩)] 49)) (.cells #[.func (.func 19) #[.pointer (some ⟨w.heap.size + 1, 0, none⟩)] #[]] 51)
  have h4 := heap_alloc_new ((((w.alloc (.cells #[.int .i64 0, .int .i64 0, .int .i64 0, .int .i64 0, .string ⟨#[]⟩, .bool false, .string ⟨#[]⟩, .string ⟨#[]⟩, .int .i64 0, .int .i64 0, .slice none 0 0, .slice none 0 0, .slice none 0 0, .slice none 0 0] 29)).alloc (.cells #[.string (mk b), .bool false] 76)).alloc (.cells #[.pointer (some ⟨w.heap.size + 1, 0, none⟩)] 49)).alloc (.cells #[.func (.func 19) #[.pointer (some ⟨w.heap.size + 1, 0, none⟩)] #[]] 51)) (.cells #[.int .i64 0, .int .i64 0, .int .i64 0, .int .i64 0, .string ⟨#[]⟩, .bool false, .string ⟨#[]⟩, .string ⟨#[]⟩, .int .i64 0, .int .i64 0, .slice none 0 0, .slice none 0 0, .slice none 0 0, .slice none 0 0] 29)
  simp only [World.size_alloc] at h1 h2 h3 h4
  exact ⟨(((((Chg.refl (fun _ => False) _).alloc _).alloc _).alloc _).drew).heap h1 id, ((((Chg.refl (fun _ => False) _).alloc _).alloc _).drew).heap h2 id, (((Chg.refl (fun _ => False) _).alloc _).drew).heap h3 id, h4, ((((((Chg.refl (fun _ => False) _).alloc _).alloc _).alloc _).alloc _).drew).heap h0 id, Below.drew ((((((Below.refl _ w).alloc (Nat.le_refl _) _).alloc (by simp) _).alloc (by simp; omega) _).alloc (by simp; omega) _).alloc (by simp; omega) _)⟩
end
theorem infoPat : (Tryd.prog.info? 39).map (fun i => (i.zero, i.size, i.bytes)) = some (some (.agg #[.int .i64 0, .int .i64 0, .string ByteArray.empty]), 3, 32) := by kernel_rfl
/-- A row of patches. -/
def patcells (l : List Pt) : List Value := l.flatMap fun p => [.int .i64 p.page, .int .i64 p.at_, .string (mk p.bytes)]
theorem patcells_append (l m : List Pt) : patcells (l ++ m) = patcells l ++ patcells m := by simp [patcells]
theorem new_three {w : World} {b' : Nat} {x y z : Value} (t : TypeId) (hb : b' = w.heap.size) : ∀ j u, [x, y, z][j]? = some u → (w.alloc (.cells #[x, y, z] t)).cell? (Addr.add ⟨b', 0, none⟩ j) = some u := by
  subst hb
  intro j u hj
  match j, hj with
  | 0, hj => cases hj; rw [Addr.add_lit]; exact cell_of (heap_alloc_new w _) rfl
  | 1, hj => cases hj; rw [Addr.add_lit]; exact cell_of (heap_alloc_new w _) rfl
  | 2, hj => cases hj; rw [Addr.add_lit]; exact cell_of (heap_alloc_new w _) rfl
  | n + 3, hj => simp at hj
/-- In a round of Get: the variable of the round. -/
structure QS (w0 wr w : World) (cs ds : Array Value) (t : TypeId) (s : Rs) : Prop where
  gs : GS w0 w cs s
  pc : w.heap[wr.heap.size]? = some (.cells ds t (0, 0))
  ch : Chg (fun k => k = w0.heap.size + 1) wr w
  lt : w0.heap.size + 1 + 1 + 1 + 1 < wr.heap.size
section
variable {w0 wr w w' : World} {cs ds : Array Value} {t : TypeId} {s s' : Rs}
theorem GS.row {S : Nat → Prop} (h : GS w0 w cs s) (hc : Chg S w w') (hs : ∀ k, S k → w0.heap.size + 1 + 1 + 1 + 1 < k) : GS w0 w' cs s :=
  ⟨hc.heap h.rd (fun e => by have := hs _ e; omega), hc.heap h.rcc (fun e => by have := hs _ e; omega), hc.heap h.nc (fun e => by have := hs _ e; omega), hc.heap h.xc (fun e => by have := hs _ e; omega), hc.heap h.res (fun e => by have := hs _ e; omega), h.bel.trans (hc.below (fun k _ e => by have := hs _ e; omega) h.bel.size)⟩
theorem qs_start (h : GS w0 wr cs s) (ds : Array Value) (t : TypeId) : QS w0 wr (wr.alloc (.cells ds t)) cs ds t s :=
  ⟨h.more ((Below.refl _ wr).alloc (Nat.le_refl _) _), heap_alloc_new wr _, (Chg.refl _ wr).alloc _, lt_of h.xc⟩
theorem QS.call (h : QS w0 wr w cs ds t s) (hr : RAt w' (w0.heap.size + 1) s'.1 s'.2) (hc : Chg (fun k => k = w0.heap.size + 1) w w') : QS w0 wr w' cs ds t s' :=
  ⟨h.gs.call hr hc, hc.heap h.pc (by have := h.lt; omega), h.ch.trans hc (fun _ _ e => e), h.lt⟩
theorem QS.set (h : QS w0 wr w cs ds t s) (i : Nat) (v : Value) {ds' : Array Value} (e : ds' = ds.setIfInBounds i v) : QS w0 wr (w.setCell ⟨wr.heap.size, i, none⟩ v) cs ds' t s := by
  subst e
  have hl := h.lt
  have hc : Chg (fun k => k = wr.heap.size) w (w.setCell ⟨wr.heap.size, i, none⟩ v) := (Chg.refl (fun k => k = wr.heap.size) w).setCell (a := ⟨wr.heap.size, i, none⟩) (fun _ => rfl) v
  have g := h.gs
  exact ⟨⟨hc.heap g.rd (by omega), hc.heap g.rcc (by omega), hc.heap g.nc (by omega), hc.heap g.xc (by omega), hc.heap g.res (by omega), g.bel.trans (hc.below (fun k _ e => by omega) g.bel.size)⟩, heap_setCell h.pc v, h.ch.trans hc (fun k hk e => by omega), hl⟩
theorem QS.cell (h : QS w0 wr w cs ds t s) (i : Nat) {c : Value} (e : ds[i]? = some c) : w.cell? ⟨wr.heap.size, i, none⟩ = some c ∧ w.frozen? ⟨wr.heap.size, i, none⟩ = false := ⟨cell_of h.pc e, free_of h.pc⟩
theorem QS.num (h : QS w0 wr w cs ds t s) : w.cell? ⟨w0.heap.size + 1 + 1 + 1, 0, none⟩ = some (.func (.func 19) #[.pointer (some ⟨w0.heap.size + 1, 0, none⟩)] #[]) ∧ wr.heap.size < w.heap.size := ⟨h.gs.num.1, lt_of h.pc⟩
end
theorem row_base {w : World} {base base' : Nat} {e : TypeId} {size : Nat} {v : Value} {n : Nat} {xs : List Value} (h : w.ownsRow base e size v n xs) (hb : base' ≤ base) : w.ownsRow base' e size v n xs := by
  refine ⟨h.1, ?_⟩
  rcases h.2 with hh | ⟨g, cap, cur, hv, hg, rest⟩
  · exact .inl hh
  · exact .inr ⟨g, cap, cur, hv, Nat.le_trans hb hg, rest⟩
end Go.Proofs.YtikdjbcfckjccaaDoor
