/- Log records in memory that are read: lists, a record's value. No condition. -/
import Derived.Test.YtofejnhnnmnfpaaDoorRecN
namespace Go.Proofs.YtofejnhnnmnfpaaDoor.Rc
set_option maxRecDepth 100000
open Go.RowKit
theorem cell_more {w w' : World} {a : Addr} {v : Value} (hb : Below w.heap.size w w') (h : w.cell? a = some v) : w'.cell? a = some v :=
  (World.cell?_of_block (w := w) (hb.block _ (World.block_lt_of_cell? w _ h))).trans h
/-- Numbers. -/
def IsI (w : World) (v : Value) (l : List Int) : Prop := ∃ a c, v = .slice a l.length c ∧ ∀ j (h : j < l.length), ∃ b o, a = some ⟨b, o, none⟩ ∧ w.cell? ⟨b, o + j, none⟩ = some (.int .i64 l[j])
/-- Patches. -/
def IsP (w : World) (v : Value) (l : List Pt) : Prop := ∃ a c, v = .slice a l.length c ∧ ∀ j (h : j < l.length), ∃ b o, a = some ⟨b, o, none⟩ ∧ w.cell? ⟨b, o + j * 3, none⟩ = some (.int .i64 (l[j]).page) ∧ w.cell? ⟨b, o + j * 3 + 1, none⟩ = some (.int .i64 (l[j]).at_) ∧ w.cell? ⟨b, o + j * 3 + 2, none⟩ = some (.string (mk (l[j]).bytes))
/-- Transactions. -/
def IsT (w : World) (v : Value) (l : List Tt) : Prop := ∃ a c, v = .slice a l.length c ∧ ∀ j (h : j < l.length), ∃ b o u, a = some ⟨b, o, none⟩ ∧ w.cell? ⟨b, o + j * 4, none⟩ = some (.int .i64 (l[j]).tx) ∧ w.cell? ⟨b, o + j * 4 + 1, none⟩ = some (.int .i64 (l[j]).last) ∧ w.cell? ⟨b, o + j * 4 + 2, none⟩ = some (.bool (l[j]).com) ∧ w.cell? ⟨b, o + j * 4 + 3, none⟩ = some u ∧ IsI w u (l[j]).pages
/-- Pages that were changed. -/
def IsD (w : World) (v : Value) (l : List (Int × Int)) : Prop := ∃ a c, v = .slice a l.length c ∧ ∀ j (h : j < l.length), ∃ b o, a = some ⟨b, o, none⟩ ∧ w.cell? ⟨b, o + j * 2, none⟩ = some (.int .i64 (l[j]).1) ∧ w.cell? ⟨b, o + j * 2 + 1, none⟩ = some (.int .i64 (l[j]).2)
section
variable {w w' : World} {v : Value}
theorem IsI.more {l : List Int} (h : IsI w v l) (hb : Below w.heap.size w w') : IsI w' v l := by
  obtain ⟨a, c, e, h⟩ := h
  exact ⟨a, c, e, fun j hj => by obtain ⟨b, o, e, h1⟩ := h j hj; exact ⟨b, o, e, cell_more hb h1⟩⟩
theorem IsP.more {l : List Pt} (h : IsP w v l) (hb : Below w.heap.size w w') : IsP w' v l := by
  obtain ⟨a, c, e, h⟩ := h
  exact ⟨a, c, e, fun j hj => by obtain ⟨b, o, e, h1, h2, h3⟩ := h j hj; exact ⟨b, o, e, cell_more hb h1, cell_more hb h2, cell_more hb h3⟩⟩
theorem IsT.more {l : List Tt} (h : IsT w v l) (hb : Below w.heap.size w w') : IsT w' v l := by
  obtain ⟨a, c, e, h⟩ := h
  exact ⟨a, c, e, fun j hj => by obtain ⟨b, o, u, e, h1, h2, h3, h4, h5⟩ := h j hj; exact ⟨b, o, u, e, cell_more hb h1, cell_more hb h2, cell_more hb h3, cell_more hb h4, h5.more hb⟩⟩
theorem IsD.more {l : List (Int × Int)} (h : IsD w v l) (hb : Below w.heap.size w w') : IsD w' v l := by
  obtain ⟨a, c, e, h⟩ := h
  exact ⟨a, c, e, fun j hj => by obtain ⟨b, o, e, h1, h2⟩ := h j hj; exact ⟨b, o, e, cell_more hb h1, cell_more hb h2⟩⟩
end
/-- A record's value. -/
structure RecAt (w : World) (v vp vt vx vd : Value) (r : Rec) : Prop where
  val : v = .agg #[.int .i64 r.kind, .int .i64 r.tx, .int .i64 r.prev, .int .i64 r.next, .string (mk r.key), .bool r.had, .string (mk r.old.key), .string (mk r.old.val), .int .i64 r.old.blob, .int .i64 r.old.size, vp, vt, vx, vd]
  pages : IsI w vp r.pages
  pats : IsP w vt r.pats
  txs : IsT w vx r.txs
  dirty : IsD w vd r.dirty
theorem RecAt.more {w w' : World} {v vp vt vx vd : Value} {r : Rec} (h : RecAt w v vp vt vx vd r) (hb : Below w.heap.size w w') : RecAt w' v vp vt vx vd r := ⟨h.val, h.pages.more hb, h.pats.more hb, h.txs.more hb, h.dirty.more hb⟩
end Go.Proofs.YtofejnhnnmnfpaaDoor.Rc
