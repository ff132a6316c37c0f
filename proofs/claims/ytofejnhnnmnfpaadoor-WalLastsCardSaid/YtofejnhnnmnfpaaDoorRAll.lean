/- What Get of package record has in memory while it reads: the record, a round's variable, rows. No condition. -/
import Derived.Test.YtofejnhnnmnfpaaDoorRNs
import Derived.Test.YtofejnhnnmnfpaaDoorRecS
namespace Go.Proofs.YtofejnhnnmnfpaaDoor.Rc
set_option maxRecDepth 100000
open Go.RowKit
attribute [local go_sem] run_store_func
/-- In Get: the reader, the variable that has it, its Num, the record that is read; the record that was made for the answer. -/
structure GS (w0 w : World) (cs : Array Value) (s : Rs) : Prop where
  rd : RAt w (w0.heap.size + 1) s.1 s.2
  rcc : w.heap[w0.heap.size + 1 + 1]? = some (.cells #[.pointer (some ⟨w0.heap.size + 1, 0, none⟩)] 107 (0, 0))
  nc : w.heap[w0.heap.size + 1 + 1 + 1]? = some (.cells #[.func (.func 57) #[.pointer (some ⟨w0.heap.size + 1, 0, none⟩)] #[]] 40 (0, 0))
  xc : w.heap[w0.heap.size + 1 + 1 + 1 + 1]? = some (.cells cs 37 (0, 0))
  res : w.heap[w0.heap.size]? = some (.cells #[.int .i64 0, .int .i64 0, .int .i64 0, .int .i64 0, .string ⟨#[]⟩, .bool false, .string ⟨#[]⟩, .string ⟨#[]⟩, .int .i64 0, .int .i64 0, .slice none 0 0, .slice none 0 0, .slice none 0 0, .slice none 0 0] 37 (0, 0))
  bel : Below w0.heap.size w0 w
section
variable {w0 w w' : World} {cs : Array Value} {s s' : Rs}
theorem GS.call (h : GS w0 w cs s) (hr : RAt w' (w0.heap.size + 1) s'.1 s'.2) (hc : Chg (fun k => k = w0.heap.size + 1) w w') : GS w0 w' cs s' :=
  ⟨hr, hc.heap h.rcc (by omega), hc.heap h.nc (by omega), hc.heap h.xc (by omega), hc.heap h.res (by omega), h.bel.trans (hc.below (fun k _ e => by omega) h.bel.size)⟩
theorem GS.set (h : GS w0 w cs s) (i : Nat) (v : Value) {cs' : Array Value} (e : cs' = cs.setIfInBounds i v) : GS w0 (w.setCell ⟨w0.heap.size + 1 + 1 + 1 + 1, i, none⟩ v) cs' s := by
  subst e
  have hc : Chg (fun k => k = w0.heap.size + 1 + 1 + 1 + 1) w (w.setCell ⟨w0.heap.size + 1 + 1 + 1 + 1, i, none⟩ v) := (Chg.refl (fun k => k = w0.heap.size + 1 + 1 + 1 + 1) w).setCell (a := ⟨w0.heap.size + 1 + 1 + 1 + 1, i, none⟩) (fun _ => rfl) v
  exact ⟨hc.heap h.rd (by omega), hc.heap h.rcc (by omega), hc.heap h.nc (by omega), heap_setCell h.xc v, hc.heap h.res (by omega), h.bel.trans (hc.below (fun k _ e => by omega) h.bel.size)⟩
theorem GS.more (h : GS w0 w cs s) (hb : Below w.heap.size w w') : GS w0 w' cs s := by
  have hc : Chg (fun _ => False) w w' := Chg.of_below hb
  exact ⟨hc.heap h.rd id, hc.heap h.rcc id, hc.heap h.nc id, hc.heap h.xc id, hc.heap h.res id, h.bel.trans (hc.below (fun _ _ h => h.elim) h.bel.size)⟩
theorem GS.num (h : GS w0 w cs s) : w.cell? ⟨w0.heap.size + 1 + 1 + 1, 0, none⟩ = some (.func (.func 57) #[.pointer (some ⟨w0.heap.size + 1, 0, none⟩)] #[]) ∧ w0.heap.size + 1 + 1 + 1 + 1 < w.heap.size := ⟨cell_of h.nc rfl, lt_of h.xc⟩
theorem GS.cell (h : GS w0 w cs s) (i : Nat) {c : Value} (e : cs[i]? = some c) : w.cell? ⟨w0.heap.size + 1 + 1 + 1 + 1, i, none⟩ = some c ∧ w.frozen? ⟨w0.heap.size + 1 + 1 + 1 + 1, i, none⟩ = false := ⟨cell_of h.xc e, free_of h.xc⟩
theorem gs_start (b : List UInt8) (w : World) : GS w (((((w.alloc (.cells #[.int .i64 0, .int .i64 0, .int .i64 0, .int .i64 0, .string ⟨#[]⟩, .bool false, .string ⟨#[]⟩, .string ⟨#[]⟩, .int .i64 0, .int .i64 0, .slice none 0 0, .slice none 0 0, .slice none 0 0, .slice none 0 0] 37)).alloc (.cells #[.string (mk b), .bool false] 135)).alloc (.cells #[.pointer (some ⟨w.heap.size + 1, 0, none⟩)] 107)).alloc (.cells #[.func (.func 57) #[.pointer (some ⟨w.heap.size + 1, 0, none⟩)] #[]] 40)).alloc (.cells #[.int .i64 0, .int .i64 0, .int .i64 0, .int .i64 0, .string ⟨#[]⟩, .bool false, .string ⟨#[]⟩, .string ⟨#[]⟩, .int .i64 0, .int .i64 0, .slice none 0 0, .slice none 0 0, .slice none 0 0, .slice none 0 0] 37)).drew #[.int .i64 0, .int .i64 0, .int .i64 0, .int .i64 0, .string ⟨#[]⟩, .bool false, .string ⟨#[]⟩, .string ⟨#[]⟩, .int .i64 0, .int .i64 0, .slice none 0 0, .slice none 0 0, .slice none 0 0, .slice none 0 0] (b, false) := by
  have h0 := heap_alloc_new w (.cells #[.int .i64 0, .int .i64 0, .int .i64 0, .int .i64 0, .string ⟨#[]⟩, .bool false, .string ⟨#[]⟩, .string ⟨#[]⟩, .int .i64 0, .int .i64 0, .slice none 0 0, .slice none 0 0, .slice none 0 0, .slice none 0 0] 37)
  have h1 := heap_alloc_new (w.alloc (.cells #[.int .i64 0, .int .i64 0, .int .i64 0, .int .i64 0, .string ⟨#[]⟩, .bool false, .string ⟨#[]⟩, .string ⟨#[]⟩, .int .i64 0, .int .i64 0, .slice none 0 0, .slice none 0 0, .slice none 0 0, .slice none 0 0] 37)) (.cells #[.string (mk b), .bool false] 135)
  have h2 := heap_alloc_new ((w.alloc (.cells #[.int .i64 0, .int .i64 0, .int .i64 0, .int .i64 0, .string ⟨#[]⟩, .bool false, .string ⟨#[]⟩, .string ⟨#[]⟩, .int .i64 0, .int .i64 0, .slice none 0 0, .slice none 0 0, .slice none 0 0, .slice none 0 0] 37)).alloc (.cells #[.string (mk b), .bool false] 135)) (.cells #[.pointer (some ⟨w.heap.size + 1, 0, none⟩)] 107)
  have h3 := heap_alloc_new (((w.alloc (.cells #[.int .i64 0, .int .i64 0, .int .i64 0, .int .i64 0, .string ⟨#[]⟩, .bool false, .string ⟨#[]⟩, .string ⟨#[]⟩, .int .i64 0, .int .i64 0, .slice none 0 0, .slice none 0 0, .slice none 0 0, .slice none 0 0] 37)).alloc (.cells #[.string (mk b), .bool false] 135)).alloc (.cells #[.pointer (some ⟨w.heap.size + 1, 0, none⟩)] 107)) (.cells #[.func (.func 57) #[.pointer (some ⟨w.heap.size + 1, 0, none⟩)] #[]] 40)
  have h4 := heap_alloc_new ((((w.alloc (.cells #[.int .i64 0, .int .i64 0, .int .i64 0, .int .i64 0, .string ⟨#[]⟩, .bool false, .string ⟨#[]⟩, .string ⟨#[]⟩, .int .i64 0, .int .i64 0, .slice none 0 0, .slice none 0 0, .slice none 0 0, .slice none 0 0] 37)).alloc (.cells #[.string (mk b), .bool false] 135)).alloc (.cells #[.pointer (some ⟨w.heap.size + 1, 0, none⟩)] 107)).alloc (.cells #[.func (.func 57) #[.pointer (some ⟨w.heap.size + 1, 0, none⟩)] #[]] 40)) (.cells #[.int .i64 0, .int .i64 0, .int .i64 0, .int .i64 0, .string ⟨#[]⟩, .bool false, .string ⟨#[]⟩, .string ⟨#[]⟩, .int .i64 0, .int .i64 0, .slice none 0 0, .slice none 0 0, .slice none 0 0, .slice none 0 0] 37)
  simp only [World.size_alloc] at h1 h2 h3 h4
  exact ⟨(((((Chg.refl (fun _ => False) _).alloc _).alloc _).alloc _).drew).heap h1 id, ((((Chg.refl (fun _ => False) _).alloc _).alloc _).drew).heap h2 id, (((Chg.refl (fun _ => False) _).alloc _).drew).heap h3 id, h4, ((((((Chg.refl (fun _ => False) _).alloc _).alloc _).alloc _).alloc _).drew).heap h0 id, Below.drew ((((((Below.refl _ w).alloc (Nat.le_refl _) _).alloc (by simp) _).alloc (by simp; omega) _).alloc (by simp; omega) _).alloc (by simp; omega) _)⟩
end
theorem infoPat : (Tryd.prog.info? 77).map (fun i => (i.zero, i.size, i.bytes)) = some (some (.agg #[.int .i64 0, .int .i64 0, .string ByteArray.empty]), 3, 32) := by kernel_rfl
/-- A row of patches. -/
def patcells (l : List Pt) : List Value := l.flatMap fun p => [.int .i64 p.page, .int .i64 p.at_, .string (mk p.bytes)]
theorem patcells_append (l m : List Pt) : patcells (l ++ m) = patcells l ++ patcells m := by simp [patcells]
theorem new_three {w : World} {b' : Nat} {x y z : Value} (t : TypeId) (hb : b' = w.heap.size) : ∀ j u, [x, y, z][j]? = some u → (w.alloc (.cells #[x, y, z] t)).cell? (Addr.add ⟨b', 0, none⟩ j) = some u := by
  subst hb
  intro j u hj
  match j, hj with
  | 0, hj => cases hj; rw [Addr.add_lit]; exact cell_of (heap_alloc_new w _) rfl
  | 1, hj => cases hj; rw [Addr.add_lit]; exact cell_of (heap_alloc_new w _) rfl
  | 2, hj => cases hj; rw [Addr.add_lit]; exact cell_of (heap_alloc_new w _) rfl
  | n + 3, hj => simp at hj
/-- In a round of Get: the variable of the round. -/
structure QS (w0 wr w : World) (cs ds : Array Value) (t : TypeId) (s : Rs) : Prop where
  gs : GS w0 w cs s
  pc : w.heap[wr.heap.size]? = some (.cells ds t (0, 0))
  ch : Chg (fun k => k = w0.heap.size + 1) wr w
  lt : w0.heap.size + 1 + 1 + 1 + 1 < wr.heap.size
section
variable {w0 wr w w' : World} {cs ds : Array Value} {t : TypeId} {s s' : Rs}
theorem GS.row {S : Nat → Prop} (h : GS w0 w cs s) (hc : Chg S w w') (hs : ∀ k, S k → w0.heap.size + 1 + 1 + 1 + 1 < k) : GS w0 w' cs s :=
  ⟨hc.heap h.rd (fun e => by have := hs _ e; omega), hc.heap h.rcc (fun e => by have := hs _ e; omega), hc.heap h.nc (fun e => by have := hs _ e; omega), hc.heap h.xc (fun e => by have := hs _ e; omega), hc.heap h.res (fun e => by have := hs _ e; omega), h.bel.trans (hc.below (fun k _ e => by have := hs _ e; omega) h.bel.size)⟩
theorem qs_start (h : GS w0 wr cs s) (ds : Array Value) (t : TypeId) : QS w0 wr (wr.alloc (.cells ds t)) cs ds t s :=
  ⟨h.more ((Below.refl _ wr).alloc (Nat.le_refl _) _), heap_alloc_new wr _, (Chg.refl _ wr).alloc _, lt_of h.xc⟩
theorem QS.call (h : QS w0 wr w cs ds t s) (hr : RAt w' (w0.heap.size + 1) s'.1 s'.2) (hc : Chg (fun k => k = w0.heap.size + 1) w w') : QS w0 wr w' cs ds t s' :=
  ⟨h.gs.call hr hc, hc.heap h.pc (by have := h.lt; omega), h.ch.trans hc (fun _ _ e => e), h.lt⟩
theorem QS.set (h : QS w0 wr w cs ds t s) (i : Nat) (v : Value) {ds' : Array Value} (e : ds' = ds.setIfInBounds i v) : QS w0 wr (w.setCell ⟨wr.heap.size, i, none⟩ v) cs ds' t s := by
  subst e
  have hl := h.lt
  have hc : Chg (fun k => k = wr.heap.size) w (w.setCell ⟨wr.heap.size, i, none⟩ v) := (Chg.refl (fun k => k = wr.heap.size) w).setCell (a := ⟨wr.heap.size, i, none⟩) (fun _ => rfl) v
  have g := h.gs
  exact ⟨⟨hc.heap g.rd (by omega), hc.heap g.rcc (by omega), hc.heap g.nc (by omega), hc.heap g.xc (by omega), hc.heap g.res (by omega), g.bel.trans (hc.below (fun k _ e => by omega) g.bel.size)⟩, heap_setCell h.pc v, h.ch.trans hc (fun k hk e => by omega), hl⟩
theorem QS.cell (h : QS w0 wr w cs ds t s) (i : Nat) {c : Value} (e : ds[i]? = some c) : w.cell? ⟨wr.heap.size, i, none⟩ = some c ∧ w.frozen? ⟨wr.heap.size, i, none⟩ = false := ⟨cell_of h.pc e, free_of h.pc⟩
theorem QS.num (h : QS w0 wr w cs ds t s) : w.cell? ⟨w0.heap.size + 1 + 1 + 1, 0, none⟩ = some (.func (.func 57) #[.pointer (some ⟨w0.heap.size + 1, 0, none⟩)] #[]) ∧ wr.heap.size < w.heap.size := ⟨h.gs.num.1, lt_of h.pc⟩
end
theorem row_base {w : World} {base base' : Nat} {e : TypeId} {size : Nat} {v : Value} {n : Nat} {xs : List Value} (h : w.ownsRow base e size v n xs) (hb : base' ≤ base) : w.ownsRow base' e size v n xs := by
  refine ⟨h.1, ?_⟩
  rcases h.2 with hh | ⟨g, cap, cur, hv, hg, rest⟩
  · exact .inl hh
  · exact .inr ⟨g, cap, cur, hv, Nat.le_trans hb hg, rest⟩
end Go.Proofs.YtofejnhnnmnfpaaDoor.Rc
/- Rows of transactions that Get of package record makes: each holds a row of its own. No condition. -/
namespace Go.Proofs.YtofejnhnnmnfpaaDoor.Rc
set_option maxRecDepth 100000
open Go.RowKit
theorem infoTx : (Tryd.prog.info? 79).map (fun i => (i.zero, i.size, i.bytes)) = some (some (.agg #[.int .i64 0, .int .i64 0, .bool false, .slice none 0 0]), 4, 48) := by kernel_rfl
theorem infoDir : (Tryd.prog.info? 84).map (fun i => (i.zero, i.size, i.bytes)) = some (some (.agg #[.int .i64 0, .int .i64 0]), 2, 16) := by kernel_rfl
def txcells (l : List (Tt × Value)) : List Value := l.flatMap fun p => [.int .i64 p.1.tx, .int .i64 p.1.last, .bool p.1.com, p.2]
theorem txcells_append (l m : List (Tt × Value)) : txcells (l ++ m) = txcells l ++ txcells m := by simp [txcells]
def dircells (l : List (Int × Int)) : List Value := l.flatMap fun p => [.int .i64 p.1, .int .i64 p.2]
theorem dircells_append (l m : List (Int × Int)) : dircells (l ++ m) = dircells l ++ dircells m := by simp [dircells]
theorem new_four {w : World} {b' : Nat} {x y z u : Value} (t : TypeId) (hb : b' = w.heap.size) : ∀ j r, [x, y, z, u][j]? = some r → (w.alloc (.cells #[x, y, z, u] t)).cell? (Addr.add ⟨b', 0, none⟩ j) = some r := by
  subst hb
  intro j r hj
  match j, hj with
  | 0, hj => cases hj; rw [Addr.add_lit]; exact cell_of (heap_alloc_new w _) rfl
  | 1, hj => cases hj; rw [Addr.add_lit]; exact cell_of (heap_alloc_new w _) rfl
  | 2, hj => cases hj; rw [Addr.add_lit]; exact cell_of (heap_alloc_new w _) rfl
  | 3, hj => cases hj; rw [Addr.add_lit]; exact cell_of (heap_alloc_new w _) rfl
  | n + 4, hj => simp at hj
theorem new_both {w : World} {b' : Nat} {x y : Value} (t : TypeId) (hb : b' = w.heap.size) : ∀ j r, [x, y][j]? = some r → (w.alloc (.cells #[x, y] t)).cell? (Addr.add ⟨b', 0, none⟩ j) = some r := by
  subst hb
  intro j r hj
  match j, hj with
  | 0, hj => cases hj; rw [Addr.add_lit]; exact cell_of (heap_alloc_new w _) rfl
  | 1, hj => cases hj; rw [Addr.add_lit]; exact cell_of (heap_alloc_new w _) rfl
  | n + 2, hj => simp at hj
/-- The rows that the rows hold. -/
def Inner (w : World) (base : Nat) (v : Value) (ps : List (Tt × Value)) : Prop := ∀ p ∈ ps, w.ownsRow base 3 1 p.2 p.1.pages.length (icells p.1.pages) ∧ ∀ k, p.2.ownBlock = some k → v.ownBlock ≠ some k
theorem Inner.chg {S : Nat → Prop} {w w' : World} {base : Nat} {v : Value} {ps : List (Tt × Value)} (h : Inner w base v ps) (hc : Chg S w w') (hs : ∀ p ∈ ps, ∀ k, p.2.ownBlock = some k → ¬ S k) : Inner w' base v ps :=
  fun p hp => ⟨hc.row (h p hp).1 (hs p hp), (h p hp).2⟩
/-- One more, where the outer row stays where it is or is new. -/
theorem Inner.turn {w : World} {base m : Nat} {v v' : Value} {ps : List (Tt × Value)} (h : Inner w base v ps) (hm : ∀ p ∈ ps, ∀ k, p.2.ownBlock = some k → k < m) (hv : v'.ownBlock = v.ownBlock ∨ ∀ k, v'.ownBlock = some k → m ≤ k) : Inner w base v' ps := by
  intro p hp
  refine ⟨(h p hp).1, fun k hk e => ?_⟩
  rcases hv with hv | hv
  · exact (h p hp).2 k hk (hv ▸ e)
  · have := hv k e; have := hm p hp k hk; omega
theorem Inner.push {w : World} {base : Nat} {v u : Value} {ps : List (Tt × Value)} {t : Tt} (h : Inner w base v ps) (ho : w.ownsRow base 3 1 u t.pages.length (icells t.pages)) (hn : ∀ k, u.ownBlock = some k → v.ownBlock ≠ some k) : Inner w base v (ps ++ [(t, u)]) := by
  intro p hp
  rw [List.mem_append] at hp
  rcases hp with hp | hp
  · exact h p hp
  · rw [List.mem_singleton] at hp; subst hp; exact ⟨ho, hn⟩
theorem Inner.lt {w : World} {base : Nat} {v : Value} {ps : List (Tt × Value)} (h : Inner w base v ps) : ∀ p ∈ ps, ∀ k, p.2.ownBlock = some k → base ≤ k ∧ k < w.heap.size := fun p hp k hk => (h p hp).1.lt k hk
theorem inner_nil (w : World) (base : Nat) (v : Value) : Inner w base v [] := fun p hp => by cases hp
end Go.Proofs.YtofejnhnnmnfpaaDoor.Rc
/- The rows that Get of package record makes can be read. No condition. -/
namespace Go.Proofs.YtofejnhnnmnfpaaDoor.Rc
set_option maxRecDepth 100000
open Go.RowKit
theorem flat_at {α : Type} (f : α → List Value) (m : Nat) (hf : ∀ a, (f a).length = m) : ∀ (l : List α) (j : Nat) (h : j < l.length) (i : Nat), i < m → (l.flatMap f)[j * m + i]? = (f l[j])[i]?
  | [], j, h, i, hi => by simp at h
  | a :: l, 0, h, i, hi => by
    rw [List.flatMap_cons, Nat.zero_mul, Nat.zero_add, List.getElem?_append_left (by rw [hf]; exact hi)]
    rfl
  | a :: l, j + 1, h, i, hi => by
    rw [List.flatMap_cons, List.getElem?_append_right (by rw [hf, Nat.succ_mul]; omega), hf]
    rw [show (j + 1) * m + i - m = j * m + i by rw [Nat.succ_mul]; omega]
    exact flat_at f m hf l j (by simpa using h) i hi
theorem row_at {w : World} {base : Nat} {e : TypeId} {m n : Nat} {v : Value} {xs : List Value} (h : w.ownsRow base e m v n xs) : ∃ a c, v = .slice a n c ∧ ∀ i u, xs[i]? = some u → ∃ b, a = some ⟨b, 0, none⟩ ∧ w.cell? ⟨b, i, none⟩ = some u := by
  obtain ⟨hl, h⟩ := h
  rcases h with ⟨rfl, rfl⟩ | ⟨g, cap, cur, rfl, _, hg, _, _, _, hx⟩
  · refine ⟨none, 0, rfl, fun i u hu => ?_⟩
    have : xs = [] := List.length_eq_zero_iff.1 (by rw [hl]; simp)
    subst this
    simp at hu
  · refine ⟨some ⟨g, 0, none⟩, cap, rfl, fun i u hu => ⟨g, rfl, ?_⟩⟩
    refine cell_of hg ?_
    rw [← hx] at hu
    rw [List.getElem?_take] at hu
    split at hu
    · rw [← Array.getElem?_toList]; exact hu
    · cases hu
section
variable {w : World} {base : Nat} {v : Value}
theorem isI_of_row {l : List Int} (h : w.ownsRow base 3 1 v l.length (icells l)) : IsI w v l := by
  obtain ⟨a, c, rfl, hr⟩ := row_at h
  refine ⟨a, c, rfl, fun j hj => ?_⟩
  obtain ⟨b, rfl, hb⟩ := hr j (.int .i64 l[j]) (by simp [icells, hj])
  exact ⟨b, 0, rfl, by rw [Nat.zero_add]; exact hb⟩
theorem isP_of_row {l : List Pt} (h : w.ownsRow base 77 3 v l.length (patcells l)) : IsP w v l := by
  obtain ⟨a, c, rfl, hr⟩ := row_at h
  refine ⟨a, c, rfl, fun j hj => ?_⟩
  have hf := flat_at (fun p : Pt => [.int .i64 p.page, .int .i64 p.at_, .string (mk p.bytes)]) 3 (fun _ => rfl) l j hj
  obtain ⟨b, rfl, h0⟩ := hr (j * 3 + 0) _ (hf 0 (by omega))
  obtain ⟨b', e1, h1⟩ := hr (j * 3 + 1) _ (hf 1 (by omega))
  obtain ⟨b'', e2, h2⟩ := hr (j * 3 + 2) _ (hf 2 (by omega))
  cases e1; cases e2
  exact ⟨b, 0, rfl, by rw [Nat.zero_add]; exact h0, by rw [Nat.zero_add]; exact h1, by rw [Nat.zero_add]; exact h2⟩
theorem isD_of_row {l : List (Int × Int)} (h : w.ownsRow base 84 2 v l.length (dircells l)) : IsD w v l := by
  obtain ⟨a, c, rfl, hr⟩ := row_at h
  refine ⟨a, c, rfl, fun j hj => ?_⟩
  have hf := flat_at (fun p : Int × Int => [.int .i64 p.1, .int .i64 p.2]) 2 (fun _ => rfl) l j hj
  obtain ⟨b, rfl, h0⟩ := hr (j * 2 + 0) _ (hf 0 (by omega))
  obtain ⟨b', e1, h1⟩ := hr (j * 2 + 1) _ (hf 1 (by omega))
  cases e1
  exact ⟨b, 0, rfl, by rw [Nat.zero_add]; exact h0, by rw [Nat.zero_add]; exact h1⟩
theorem isT_of_row {ps : List (Tt × Value)} {b1 : Nat} (h : w.ownsRow base 79 4 v ps.length (txcells ps)) (hn : Inner w b1 v ps) : IsT w v (ps.map (·.1)) := by
  obtain ⟨a, c, rfl, hr⟩ := row_at h
  refine ⟨a, c, by rw [List.length_map], fun j hj => ?_⟩
  have hj' : j < ps.length := by simpa using hj
  have hf := flat_at (fun p : Tt × Value => [.int .i64 p.1.tx, .int .i64 p.1.last, .bool p.1.com, p.2]) 4 (fun _ => rfl) ps j hj'
  obtain ⟨b, rfl, h0⟩ := hr (j * 4 + 0) _ (hf 0 (by omega))
  obtain ⟨b', e1, h1⟩ := hr (j * 4 + 1) _ (hf 1 (by omega))
  obtain ⟨b'', e2, h2⟩ := hr (j * 4 + 2) _ (hf 2 (by omega))
  obtain ⟨b3, e3, h3⟩ := hr (j * 4 + 3) _ (hf 3 (by omega))
  cases e1; cases e2; cases e3
  have hm : (ps.map (·.1))[j] = ps[j].1 := by simp
  exact ⟨b, 0, ps[j].2, rfl, by rw [hm, Nat.zero_add]; exact h0, by rw [hm, Nat.zero_add]; exact h1, by rw [hm, Nat.zero_add]; exact h2, by rw [Nat.zero_add]; exact h3, by rw [hm]; exact isI_of_row (hn _ (List.getElem_mem hj')).1⟩
end
/-- Fourteen cells are written. -/
theorem fill14 {w : World} {H : Nat} {t : TypeId} {z0 z1 z2 z3 z4 z5 z6 z7 z8 z9 z10 z11 z12 z13 : Value} (h : w.heap[H]? = some (.cells #[z0, z1, z2, z3, z4, z5, z6, z7, z8, z9, z10, z11, z12, z13] t (0, 0))) (v0 v1 v2 v3 v4 v5 v6 v7 v8 v9 v10 v11 v12 v13 : Value) : ((((((((((((((w.setCell ⟨H, 0, none⟩ v0).setCell ⟨H, 1, none⟩ v1).setCell ⟨H, 2, none⟩ v2).setCell ⟨H, 3, none⟩ v3).setCell ⟨H, 4, none⟩ v4).setCell ⟨H, 5, none⟩ v5).setCell ⟨H, 6, none⟩ v6).setCell ⟨H, 7, none⟩ v7).setCell ⟨H, 8, none⟩ v8).setCell ⟨H, 9, none⟩ v9).setCell ⟨H, 10, none⟩ v10).setCell ⟨H, 11, none⟩ v11).setCell ⟨H, 12, none⟩ v12).setCell ⟨H, 13, none⟩ v13).heap[H]? = some (.cells #[v0, v1, v2, v3, v4, v5, v6, v7, v8, v9, v10, v11, v12, v13] t (0, 0)) ∧ Chg (fun k => k = H) w ((((((((((((((w.setCell ⟨H, 0, none⟩ v0).setCell ⟨H, 1, none⟩ v1).setCell ⟨H, 2, none⟩ v2).setCell ⟨H, 3, none⟩ v3).setCell ⟨H, 4, none⟩ v4).setCell ⟨H, 5, none⟩ v5).setCell ⟨H, 6, none⟩ v6).setCell ⟨H, 7, none⟩ v7).setCell ⟨H, 8, none⟩ v8).setCell ⟨H, 9, none⟩ v9).setCell ⟨H, 10, none⟩ v10).setCell ⟨H, 11, none⟩ v11).setCell ⟨H, 12, none⟩ v12).setCell ⟨H, 13, none⟩ v13) := by
  have h0 : (w.setCell ⟨H, 0, none⟩ v0).heap[H]? = some (.cells #[v0, z1, z2, z3, z4, z5, z6, z7, z8, z9, z10, z11, z12, z13] t (0, 0)) := heap_setCell h v0
  have c0 : Chg (fun k => k = H) w (w.setCell ⟨H, 0, none⟩ v0) := (Chg.refl (fun k => k = H) w).setCell (a := ⟨H, 0, none⟩) (fun _ => rfl) v0
  clear h
  have h1 : ((w.setCell ⟨H, 0, none⟩ v0).setCell ⟨H, 1, none⟩ v1).heap[H]? = some (.cells #[v0, v1, z2, z3, z4, z5, z6, z7, z8, z9, z10, z11, z12, z13] t (0, 0)) := heap_setCell h0 v1
  have c1 : Chg (fun k => k = H) w ((w.setCell ⟨H, 0, none⟩ v0).setCell ⟨H, 1, none⟩ v1) := c0.setCell (a := ⟨H, 1, none⟩) (fun _ => rfl) v1
  clear h0 c0
  have h2 : (((w.setCell ⟨H, 0, none⟩ v0).setCell ⟨H, 1, none⟩ v1).setCell ⟨H, 2, none⟩ v2).heap[H]? = some (.cells #[v0, v1, v2, z3, z4, z5, z6, z7, z8, z9, z10, z11, z12, z13] t (0, 0)) := heap_setCell h1 v2
  have c2 : Chg (fun k => k = H) w (((w.setCell ⟨H, 0, none⟩ v0).setCell ⟨H, 1, none⟩ v1).setCell ⟨H, 2, none⟩ v2) := c1.setCell (a := ⟨H, 2, none⟩) (fun _ => rfl) v2
  clear h1 c1
  have h3 : ((((w.setCell ⟨H, 0, none⟩ v0).setCell ⟨H, 1, none⟩ v1).setCell ⟨H, 2, none⟩ v2).setCell ⟨H, 3, none⟩ v3).heap[H]? = some (.cells #[v0, v1, v2, v3, z4, z5, z6, z7, z8, z9, z10, z11, z12, z13] t (0, 0)) := heap_setCell h2 v3
  have c3 : Chg (fun k => k = H) w ((((w.setCell ⟨H, 0, none⟩ v0).setCell ⟨H, 1, none⟩ v1).setCell ⟨H, 2, none⟩ v2).setCell ⟨H, 3, none⟩ v3) := c2.setCell (a := ⟨H, 3, none⟩) (fun _ => rfl) v3
  clear h2 c2
  have h4 : (((((w.setCell ⟨H, 0, none⟩ v0).setCell ⟨H, 1, none⟩ v1).setCell ⟨H, 2, none⟩ v2).setCell ⟨H, 3, none⟩ v3).setCell ⟨H, 4, none⟩ v4).heap[H]? = some (.cells #[v0, v1, v2, v3, v4, z5, z6, z7, z8, z9, z10, z11, z12, z13] t (0, 0)) := heap_setCell h3 v4
  have c4 : Chg (fun k => k = H) w (((((w.setCell ⟨H, 0, none⟩ v0).setCell ⟨H, 1, none⟩ v1).setCell ⟨H, 2, none⟩ v2).setCell ⟨H, 3, none⟩ v3).setCell ⟨H, 4, none⟩ v4) := c3.setCell (a := ⟨H, 4, none⟩) (fun _ => rfl) v4
  clear h3 c3
  have h5 : ((((((w.setCell ⟨H, 0, none⟩ v0).setCell ⟨H, 1, none⟩ v1).setCell ⟨H, 2, none⟩ v2).setCell ⟨H, 3, none⟩ v3).setCell ⟨H, 4, none⟩ v4).setCell ⟨H, 5, none⟩ v5).heap[H]? = some (.cells #[v0, v1, v2, v3, v4, v5, z6, z7, z8, z9, z10, z11, z12, z13] t (0, 0)) := heap_setCell h4 v5
  have c5 : Chg (fun k => k = H) w ((((((w.setCell ⟨H, 0, none⟩ v0).setCell ⟨H, 1, none⟩ v1).setCell ⟨H, 2, none⟩ v2).setCell ⟨H, 3, none⟩ v3).setCell ⟨H, 4, none⟩ v4).setCell ⟨H, 5, none⟩ v5) := c4.setCell (a := ⟨H, 5, none⟩) (fun _ => rfl) v5
  clear h4 c4
  have h6 : (((((((w.setCell ⟨H, 0, none⟩ v0).setCell ⟨H, 1, none⟩ v1).setCell ⟨H, 2, none⟩ v2).setCell ⟨H, 3, none⟩ v3).setCell ⟨H, 4, none⟩ v4).setCell ⟨H, 5, none⟩ v5).setCell ⟨H, 6, none⟩ v6).heap[H]? = some (.cells #[v0, v1, v2, v3, v4, v5, v6, z7, z8, z9, z10, z11, z12, z13] t (0, 0)) := heap_setCell h5 v6
  have c6 : Chg (fun k => k = H) w (((((((w.setCell ⟨H, 0, none⟩ v0).setCell ⟨H, 1, none⟩ v1).setCell ⟨H, 2, none⟩ v2).setCell ⟨H, 3, none⟩ v3).setCell ⟨H, 4, none⟩ v4).setCell ⟨H, 5, none⟩ v5).setCell ⟨H, 6, none⟩ v6) := c5.setCell (a := ⟨H, 6, none⟩) (fun _ => rfl) v6
  clear h5 c5
  have h7 : ((((((((w.setCell ⟨H, 0, none⟩ v0).setCell ⟨H, 1, none⟩ v1).setCell ⟨H, 2, none⟩ v2).setCell ⟨H, 3, none⟩ v3).setCell ⟨H, 4, none⟩ v4).setCell ⟨H, 5, none⟩ v5).setCell ⟨H, 6, none⟩ v6).setCell ⟨H, 7, none⟩ v7).heap[H]? = some (.cells #[v0, v1, v2, v3, v4, v5, v6, v7, z8, z9, z10, z11, z12, z13] t (0, 0)) := heap_setCell h6 v7
  have c7 : Chg (fun k => k = H) w ((((((((w.setCell ⟨H, 0, none⟩ v0).setCell ⟨H, 1, none⟩ v1).setCell ⟨H, 2, none⟩ v2).setCell ⟨H, 3, none⟩ v3).setCell ⟨H, 4, none⟩ v4).setCell ⟨H, 5, none⟩ v5).setCell ⟨H, 6, none⟩ v6).setCell ⟨H, 7, none⟩ v7) := c6.setCell (a := ⟨H, 7, none⟩) (fun _ => rfl) v7
  clear h6 c6
  have h8 : (((((((((w.setCell ⟨H, 0, none⟩ v0).setCell ⟨H, 1, none⟩ v1).setCell ⟨H, 2, none⟩ v2).setCell ⟨H, 3, none⟩ v3).setCell ⟨H, 4, none⟩ v4).setCell ⟨H, 5, none⟩ v5).setCell ⟨H, 6, none⟩ v6).setCell ⟨H, 7, none⟩ v7).setCell ⟨H, 8, none⟩ v8).heap[H]? = some (.cells #[v0, v1, v2, v3, v4, v5, v6, v7, v8, z9, z10, z11, z12, z13] t (0, 0)) := heap_setCell h7 v8
  have c8 : Chg (fun k => k = H) w (((((((((w.setCell ⟨H, 0, none⟩ v0).setCell ⟨H, 1, none⟩ v1).setCell ⟨H, 2, none⟩ v2).setCell ⟨H, 3, none⟩ v3).setCell ⟨H, 4, none⟩ v4).setCell ⟨H, 5, none⟩ v5).setCell ⟨H, 6, none⟩ v6).setCell ⟨H, 7, none⟩ v7).setCell ⟨H, 8, none⟩ v8) := c7.setCell (a := ⟨H, 8, none⟩) (fun _ => rfl) v8
  clear h7 c7
  have h9 : ((((((((((w.setCell ⟨H, 0, none⟩ v0).setCell ⟨H, 1, none⟩ v1).setCell ⟨H, 2, none⟩ v2).setCell ⟨H, 3, none⟩ v3).setCell ⟨H, 4, none⟩ v4).setCell ⟨H, 5, none⟩ v5).setCell ⟨H, 6, none⟩ v6).setCell ⟨H, 7, none⟩ v7).setCell ⟨H, 8, none⟩ v8).setCell ⟨H, 9, none⟩ v9).heap[H]? = some (.cells #[v0, v1, v2, v3, v4, v5, v6, v7, v8, v9, z10, z11, z12, z13] t (0, 0)) := heap_setCell h8 v9
  have c9 : Chg (fun k => k = H) w ((((((((((w.setCell ⟨H, 0, none⟩ v0).setCell ⟨H, 1, none⟩ v1).setCell ⟨H, 2, none⟩ v2).setCell ⟨H, 3, none⟩ v3).setCell ⟨H, 4, none⟩ v4).setCell ⟨H, 5, none⟩ v5).setCell ⟨H, 6, none⟩ v6).setCell ⟨H, 7, none⟩ v7).setCell ⟨H, 8, none⟩ v8).setCell ⟨H, 9, none⟩ v9) := c8.setCell (a := ⟨H, 9, none⟩) (fun _ => rfl) v9
  clear h8 c8
  have h10 : (((((((((((w.setCell ⟨H, 0, none⟩ v0).setCell ⟨H, 1, none⟩ v1).setCell ⟨H, 2, none⟩ v2).setCell ⟨H, 3, none⟩ v3).setCell ⟨H, 4, none⟩ v4).setCell ⟨H, 5, none⟩ v5).setCell ⟨H, 6, none⟩ v6).setCell ⟨H, 7, none⟩ v7).setCell ⟨H, 8, none⟩ v8).setCell ⟨H, 9, none⟩ v9).setCell ⟨H, 10, none⟩ v10).heap[H]? = some (.cells #[v0, v1, v2, v3, v4, v5, v6, v7, v8, v9, v10, z11, z12, z13] t (0, 0)) := heap_setCell h9 v10
  have c10 : Chg (fun k => k = H) w (((((((((((w.setCell ⟨H, 0, none⟩ v0).setCell ⟨H, 1, none⟩ v1).setCell ⟨H, 2, none⟩ v2).setCell ⟨H, 3, none⟩ v3).setCell ⟨H, 4, none⟩ v4).setCell ⟨H, 5, none⟩ v5).setCell ⟨H, 6, none⟩ v6).setCell ⟨H, 7, none⟩ v7).setCell ⟨H, 8, none⟩ v8).setCell ⟨H, 9, none⟩ v9).setCell ⟨H, 10, none⟩ v10) := c9.setCell (a := ⟨H, 10, none⟩) (fun _ => rfl) v10
  clear h9 c9
  have h11 : ((((((((((((w.setCell ⟨H, 0, none⟩ v0).setCell ⟨H, 1, none⟩ v1).setCell ⟨H, 2, none⟩ v2).setCell ⟨H, 3, none⟩ v3).setCell ⟨H, 4, none⟩ v4).setCell ⟨H, 5, none⟩ v5).setCell ⟨H, 6, none⟩ v6).setCell ⟨H, 7, none⟩ v7).setCell ⟨H, 8, none⟩ v8).setCell ⟨H, 9, none⟩ v9).setCell ⟨H, 10, none⟩ v10).setCell ⟨H, 11, none⟩ v11).heap[H]? = some (.cells #[v0, v1, v2, v3, v4, v5, v6, v7, v8, v9, v10, v11, z12, z13] t (0, 0)) := heap_setCell h10 v11
  have c11 : Chg (fun k => k = H) w ((((((((((((w.setCell ⟨H, 0, none⟩ v0).setCell ⟨H, 1, none⟩ v1).setCell ⟨H, 2, none⟩ v2).setCell ⟨H, 3, none⟩ v3).setCell ⟨H, 4, none⟩ v4).setCell ⟨H, 5, none⟩ v5).setCell ⟨H, 6, none⟩ v6).setCell ⟨H, 7, none⟩ v7).setCell ⟨H, 8, none⟩ v8).setCell ⟨H, 9, none⟩ v9).setCell ⟨H, 10, none⟩ v10).setCell ⟨H, 11, none⟩ v11) := c10.setCell (a := ⟨H, 11, none⟩) (fun _ => rfl) v11
  clear h10 c10
  have h12 : (((((((((((((w.setCell ⟨H, 0, none⟩ v0).setCell ⟨H, 1, none⟩ v1).setCell ⟨H, 2, none⟩ v2).setCell ⟨H, 3, none⟩ v3).setCell ⟨H, 4, none⟩ v4).setCell ⟨H, 5, none⟩ v5).setCell ⟨H, 6, none⟩ v6).setCell ⟨H, 7, none⟩ v7).setCell ⟨H, 8, none⟩ v8).setCell ⟨H, 9, none⟩ v9).setCell ⟨H, 10, none⟩ v10).setCell ⟨H, 11, none⟩ v11).setCell ⟨H, 12, none⟩ v12).heap[H]? = some (.cells #[v0, v1, v2, v3, v4, v5, v6, v7, v8, v9, v10, v11, v12, z13] t (0, 0)) := heap_setCell h11 v12
  have c12 : Chg (fun k => k = H) w (((((((((((((w.setCell ⟨H, 0, none⟩ v0).setCell ⟨H, 1, none⟩ v1).setCell ⟨H, 2, none⟩ v2).setCell ⟨H, 3, none⟩ v3).setCell ⟨H, 4, none⟩ v4).setCell ⟨H, 5, none⟩ v5).setCell ⟨H, 6, none⟩ v6).setCell ⟨H, 7, none⟩ v7).setCell ⟨H, 8, none⟩ v8).setCell ⟨H, 9, none⟩ v9).setCell ⟨H, 10, none⟩ v10).setCell ⟨H, 11, none⟩ v11).setCell ⟨H, 12, none⟩ v12) := c11.setCell (a := ⟨H, 12, none⟩) (fun _ => rfl) v12
  clear h11 c11
  have h13 : ((((((((((((((w.setCell ⟨H, 0, none⟩ v0).setCell ⟨H, 1, none⟩ v1).setCell ⟨H, 2, none⟩ v2).setCell ⟨H, 3, none⟩ v3).setCell ⟨H, 4, none⟩ v4).setCell ⟨H, 5, none⟩ v5).setCell ⟨H, 6, none⟩ v6).setCell ⟨H, 7, none⟩ v7).setCell ⟨H, 8, none⟩ v8).setCell ⟨H, 9, none⟩ v9).setCell ⟨H, 10, none⟩ v10).setCell ⟨H, 11, none⟩ v11).setCell ⟨H, 12, none⟩ v12).setCell ⟨H, 13, none⟩ v13).heap[H]? = some (.cells #[v0, v1, v2, v3, v4, v5, v6, v7, v8, v9, v10, v11, v12, v13] t (0, 0)) := heap_setCell h12 v13
  have c13 : Chg (fun k => k = H) w ((((((((((((((w.setCell ⟨H, 0, none⟩ v0).setCell ⟨H, 1, none⟩ v1).setCell ⟨H, 2, none⟩ v2).setCell ⟨H, 3, none⟩ v3).setCell ⟨H, 4, none⟩ v4).setCell ⟨H, 5, none⟩ v5).setCell ⟨H, 6, none⟩ v6).setCell ⟨H, 7, none⟩ v7).setCell ⟨H, 8, none⟩ v8).setCell ⟨H, 9, none⟩ v9).setCell ⟨H, 10, none⟩ v10).setCell ⟨H, 11, none⟩ v11).setCell ⟨H, 12, none⟩ v12).setCell ⟨H, 13, none⟩ v13) := c12.setCell (a := ⟨H, 13, none⟩) (fun _ => rfl) v13
  clear h12 c12
  exact ⟨h13, c13⟩
end Go.Proofs.YtofejnhnnmnfpaaDoor.Rc
/- What Get of package record answers. No condition. -/
namespace Go.Proofs.YtofejnhnnmnfpaaDoor.Rc
set_option maxRecDepth 100000
open Go.RowKit
/-- The record that is zero. -/
def zrec : Value := .agg #[.int .i64 0, .int .i64 0, .int .i64 0, .int .i64 0, .string ⟨#[]⟩, .bool false, .string ⟨#[]⟩, .string ⟨#[]⟩, .int .i64 0, .int .i64 0, .slice none 0 0, .slice none 0 0, .slice none 0 0, .slice none 0 0]
/-- A record's value, its rows of the call's own: at base and above. -/
structure RecOwn (w : World) (base : Nat) (v vp vt vx vd : Value) (r : Rec) : Prop where
  val : v = .agg #[.int .i64 r.kind, .int .i64 r.tx, .int .i64 r.prev, .int .i64 r.next, .string (mk r.key), .bool r.had, .string (mk r.old.key), .string (mk r.old.val), .int .i64 r.old.blob, .int .i64 r.old.size, vp, vt, vx, vd]
  pages : w.ownsRow base 3 1 vp r.pages.length (icells r.pages)
  pats : w.ownsRow base 77 3 vt r.pats.length (patcells r.pats)
  txs : ∃ ps : List (Tt × Value), ps.map (·.1) = r.txs ∧ w.ownsRow base 79 4 vx ps.length (txcells ps) ∧ Inner w base vx ps
  dirty : w.ownsRow base 84 2 vd r.dirty.length (dircells r.dirty)
theorem RecOwn.at_ {w : World} {base : Nat} {v vp vt vx vd : Value} {r : Rec} (h : RecOwn w base v vp vt vx vd r) : RecAt w v vp vt vx vd r := by
  obtain ⟨ps, e, h1, h2⟩ := h.txs
  exact ⟨h.val, isI_of_row h.pages, isP_of_row h.pats, e ▸ isT_of_row h1 h2, isD_of_row h.dirty⟩
theorem RecOwn.chg {S : Nat → Prop} {w w' : World} {base : Nat} {v vp vt vx vd : Value} {r : Rec} (h : RecOwn w base v vp vt vx vd r) (hc : Chg S w w') (hS : ∀ k, S k → k < w.heap.size → k < base) : RecOwn w' base v vp vt vx vd r := by
  have q : ∀ k, base ≤ k ∧ k < w.heap.size → ¬ S k := fun k hk e => by have := hS k e hk.2; omega
  obtain ⟨ps, e, h1, h2⟩ := h.txs
  exact ⟨h.val, hc.row h.pages (fun k hk => q k (h.pages.lt k hk)), hc.row h.pats (fun k hk => q k (h.pats.lt k hk)), ⟨ps, e, hc.row h1 (fun k hk => q k (h1.lt k hk)), h2.chg hc (fun p hp k hk => q k (h2.lt p hp k hk))⟩, hc.row h.dirty (fun k hk => q k (h.dirty.lt k hk))⟩
theorem inner_base {w : World} {base base' : Nat} {v : Value} {ps : List (Tt × Value)} (h : Inner w base v ps) (hb : base' ≤ base) : Inner w base' v ps := fun p hp => ⟨row_base (h p hp).1 hb, (h p hp).2⟩
theorem RecOwn.low {w : World} {base base' : Nat} {v vp vt vx vd : Value} {r : Rec} (h : RecOwn w base v vp vt vx vd r) (hb : base' ≤ base) : RecOwn w base' v vp vt vx vd r := by
  obtain ⟨ps, e, h1, h2⟩ := h.txs
  exact ⟨h.val, row_base h.pages hb, row_base h.pats hb, ⟨ps, e, row_base h1 hb, inner_base h2 hb⟩, row_base h.dirty hb⟩
theorem own_zrec (w : World) (base : Nat) : RecOwn w base zrec (.slice none 0 0) (.slice none 0 0) (.slice none 0 0) (.slice none 0 0) Rec.zero :=
  ⟨rfl, World.ownsRow_nil _ _ _ _, World.ownsRow_nil _ _ _ _, ⟨[], rfl, World.ownsRow_nil _ _ _ _, inner_nil _ _ _⟩, World.ownsRow_nil _ _ _ _⟩
/-- The answer of Get. -/
def GetPost (b : List UInt8) (w : World) (e : Ending) (w' : World) : Prop :=
  ∃ (x : Rec) (s : Rs), Parsed b x s ∧ Below w.heap.size w w' ∧
    ((RecOk x ∧ enc x = b ∧ ∃ v vp vt vx vd, RecOwn w' w.heap.size v vp vt vx vd x ∧ e = .returned (.tuple #[v, .bool true])) ∨ (¬ (RecOk x ∧ enc x = b) ∧ e = .returned (.tuple #[zrec, .bool false])))
theorem parsed_of {b : List UInt8} {k1 k2 k3 k4 k6 k9 k10 k12 k14 k16 : Nat} {k5 k7 k8 : List UInt8} {k11 : List Int} {x13 : List Pt} {x15 : List Tt} {x17 : List (Int × Int)} {s1 s2 s3 s4 s5 s6 s7 s8 s9 s10 s11 s12 s13 s14 s15 s16 s17 : Rs}
    (e1 : (k1, s1) = q2 (b, false)) (e2 : (k2, s2) = q2 s1) (e3 : (k3, s3) = q4 s2) (e4 : (k4, s4) = q4 s3) (e5 : (k5, s5) = qt s4) (e6 : (k6, s6) = q2 s5) (e7 : (k7, s7) = qt s6) (e8 : (k8, s8) = qt s7) (e9 : (k9, s9) = q2 s8) (e10 : (k10, s10) = q2 s9) (e11 : (k11, s11) = qnums s10)
    (e12 : (k12, s12) = q2 s11) (e13 : (x13, s13) = qmany qpat k12 s12) (e14 : (k14, s14) = q2 s13) (e15 : (x15, s15) = qmany qtx k14 s14) (e16 : (k16, s16) = q2 s15) (e17 : (x17, s17) = qmany qdir k16 s16) :
    Parsed b ⟨k1, k2, k3, k4, k5, (k6 : Int) == 1, ⟨k7, k8, k9, k10⟩, k11, x13, x15, x17⟩ s17 :=
  ⟨k1, k2, k3, k4, k6, k9, k10, k12, k14, k16, s1, s2, s3, s4, s5, s6, s7, s8, s9, s10, s11, s13, s15, s12, s14, s16, e1.symm, e2.symm, e3.symm, e4.symm, e5.symm, e6.symm, e7.symm, e8.symm, e9.symm, e10.symm, e11.symm, e12.symm, e13.symm, e14.symm, e15.symm, e16.symm, e17.symm, rfl, rfl, rfl, rfl, by rw [Bool.eq_iff_iff]; simp; omega, rfl, rfl⟩
theorem get_yes {b pu : List UInt8} {r : Rec} {s : Rs} {w wF : World} {v vp vt vx vd : Value} (hP : Parsed b r s) (hb : Below w.heap.size w wF) (_ : s.2 = false) (hok : recOk r = true) (hpu : pu = (if recOk r = true then enc r else [])) (hR : RecOwn wF w.heap.size v vp vt vx vd r) (hpb : pu = b := by rfl) : GetPost b w (.returned (.tuple #[v, .bool true])) wF := by
  rw [if_pos hok] at hpu
  exact ⟨r, s, hP, hb, .inl ⟨(recOk_iff r).1 hok, hpu.symm.trans hpb, v, vp, vt, vx, vd, hR, rfl⟩⟩
theorem get_no {b : List UInt8} {r : Rec} {s : Rs} {w wF : World} (hP : Parsed b r s) (hb : Below w.heap.size w wF) (h : s.2 = true ∨ recOk r = false ∨ enc r ≠ b) : GetPost b w (.returned (.tuple #[zrec, .bool false])) wF := by
  refine ⟨r, s, hP, hb, .inr ⟨fun ⟨h1, h2⟩ => ?_, rfl⟩⟩
  rcases h with h | h | h
  · subst h2
    rw [(parsed_enc h1 hP).2] at h
    cases h
  · rw [(recOk_iff r).2 h1] at h; cases h
  · exact h h2
/-- The answer of Get, in letters. -/
def GetLet (b : List UInt8) (w : World) (e : Ending) (w' : World) : Prop :=
  ∃ (y : Rec) (a1 : Option Addr) (c1 : Nat) (a2 : Option Addr) (c2 : Nat) (a3 : Option Addr) (c3 : Nat) (a4 : Option Addr) (c4 : Nat) (pf : Bool),
    e = .returned (.tuple #[.agg #[.int .i64 y.kind, .int .i64 y.tx, .int .i64 y.prev, .int .i64 y.next, .string (mk y.key), .bool y.had, .string (mk y.old.key), .string (mk y.old.val), .int .i64 y.old.blob, .int .i64 y.old.size, .slice a1 y.pages.length c1, .slice a2 y.pats.length c2, .slice a3 y.txs.length c3, .slice a4 y.dirty.length c4], .bool pf]) ∧
    RecOwn w' w.heap.size (.agg #[.int .i64 y.kind, .int .i64 y.tx, .int .i64 y.prev, .int .i64 y.next, .string (mk y.key), .bool y.had, .string (mk y.old.key), .string (mk y.old.val), .int .i64 y.old.blob, .int .i64 y.old.size, .slice a1 y.pages.length c1, .slice a2 y.pats.length c2, .slice a3 y.txs.length c3, .slice a4 y.dirty.length c4]) (.slice a1 y.pages.length c1) (.slice a2 y.pats.length c2) (.slice a3 y.txs.length c3) (.slice a4 y.dirty.length c4) y ∧
    (pf = true → RecOk y ∧ enc y = b) ∧ (pf = false → y = Rec.zero ∧ ∀ z, RecOk z → enc z ≠ b) ∧ Below w.heap.size w w'
theorem recAt_form {w : World} {v vp vt vx vd : Value} {r : Rec} (h : RecAt w v vp vt vx vd r) : ∃ a1 c1 a2 c2 a3 c3 a4 c4, vp = .slice a1 r.pages.length c1 ∧ vt = .slice a2 r.pats.length c2 ∧ vx = .slice a3 r.txs.length c3 ∧ vd = .slice a4 r.dirty.length c4 ∧ v = .agg #[.int .i64 r.kind, .int .i64 r.tx, .int .i64 r.prev, .int .i64 r.next, .string (mk r.key), .bool r.had, .string (mk r.old.key), .string (mk r.old.val), .int .i64 r.old.blob, .int .i64 r.old.size, .slice a1 r.pages.length c1, .slice a2 r.pats.length c2, .slice a3 r.txs.length c3, .slice a4 r.dirty.length c4] := by
  obtain ⟨rfl, ⟨a1, c1, rfl, _⟩, ⟨a2, c2, rfl, _⟩, ⟨a3, c3, rfl, _⟩, ⟨a4, c4, rfl, _⟩⟩ := h
  exact ⟨a1, c1, a2, c2, a3, c3, a4, c4, rfl, rfl, rfl, rfl, rfl⟩
theorem getLet_of {b : List UInt8} {w w' : World} {e : Ending} (h : GetPost b w e w') : GetLet b w e w' := by
  obtain ⟨x, s, hp, hb, h⟩ := h
  rcases h with ⟨h1, h2, v, vp, vt, vx, vd, hR, rfl⟩ | ⟨h, rfl⟩
  · obtain ⟨a1, c1, a2, c2, a3, c3, a4, c4, rfl, rfl, rfl, rfl, rfl⟩ := recAt_form hR.at_
    exact ⟨x, a1, c1, a2, c2, a3, c3, a4, c4, true, rfl, hR, fun _ => ⟨h1, h2⟩, fun h => (by cases h), hb⟩
  · exact ⟨Rec.zero, none, 0, none, 0, none, 0, none, 0, false, rfl, own_zrec _ _, fun h => (by cases h), fun _ => ⟨rfl, fun z hz e => h (by subst e; obtain ⟨rfl, _⟩ := parsed_enc hz hp; exact ⟨hz, rfl⟩)⟩, hb⟩
end Go.Proofs.YtofejnhnnmnfpaaDoor.Rc
