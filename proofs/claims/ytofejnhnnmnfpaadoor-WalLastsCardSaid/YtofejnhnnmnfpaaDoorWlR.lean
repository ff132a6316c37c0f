/- Records that came in, beside a log. No condition. -/
import Derived.Test.YtofejnhnnmnfpaaDoorWVs
import Derived.Test.YtofejnhnnmnfpaaDoorRecO2
import Derived.Test.YtofejnhnnmnfpaaDoorRecX4
import Derived.Test.YtofejnhnnmnfpaaDoorRecL
import Derived.Test.YtofejnhnnmnfpaaDoorRf
namespace Go.Proofs.YtofejnhnnmnfpaaDoor
set_option maxRecDepth 100000
open Go.RowKit
/-- The cells of one of the records that came in. -/
theorem row_at {w w' : World} {a : Option Addr} {k : Nat} {r : Rc.Rec} (h : Rc.RecRow w a k r) (hb : Below w.heap.size w w') : ∃ b o p1 q1 p2 q2 p3 q3 p4 q4, a = some ⟨b, o, none⟩ ∧ b < w'.heap.size ∧ Rc.RecAt w' (.agg #[.int .i64 r.kind, .int .i64 r.tx, .int .i64 r.prev, .int .i64 r.next, .string (mk r.key), .bool r.had, .string (mk r.old.key), .string (mk r.old.val), .int .i64 r.old.blob, .int .i64 r.old.size, .slice p1 r.pages.length q1, .slice p2 r.pats.length q2, .slice p3 r.txs.length q3, .slice p4 r.dirty.length q4]) (.slice p1 r.pages.length q1) (.slice p2 r.pats.length q2) (.slice p3 r.txs.length q3) (.slice p4 r.dirty.length q4) r ∧ ∀ w'', Below w'.heap.size w' w'' → (w''.cell? ⟨b, o + k * 14, none⟩ = some (.int .i64 r.kind) ∧ w''.cell? ⟨b, o + k * 14 + 1, none⟩ = some (.int .i64 r.tx) ∧ w''.cell? ⟨b, o + k * 14 + 2, none⟩ = some (.int .i64 r.prev) ∧ w''.cell? ⟨b, o + k * 14 + 3, none⟩ = some (.int .i64 r.next) ∧ w''.cell? ⟨b, o + k * 14 + 4, none⟩ = some (.string (mk r.key)) ∧ w''.cell? ⟨b, o + k * 14 + 5, none⟩ = some (.bool r.had) ∧ w''.cell? ⟨b, o + k * 14 + 6, none⟩ = some (.string (mk r.old.key))) ∧ (w''.cell? ⟨b, o + k * 14 + 7, none⟩ = some (.string (mk r.old.val)) ∧ w''.cell? ⟨b, o + k * 14 + 8, none⟩ = some (.int .i64 r.old.blob) ∧ w''.cell? ⟨b, o + k * 14 + 9, none⟩ = some (.int .i64 r.old.size) ∧ w''.cell? ⟨b, o + k * 14 + 10, none⟩ = some (.slice p1 r.pages.length q1) ∧ w''.cell? ⟨b, o + k * 14 + 11, none⟩ = some (.slice p2 r.pats.length q2) ∧ w''.cell? ⟨b, o + k * 14 + 12, none⟩ = some (.slice p3 r.txs.length q3) ∧ w''.cell? ⟨b, o + k * 14 + 13, none⟩ = some (.slice p4 r.dirty.length q4)) := by
  obtain ⟨b, o, vp, vt, vx, vd, ea, hc, hR, _⟩ := h
  obtain ⟨p1, q1, p2, q2, p3, q3, p4, q4, e1, e2, e3, e4, _⟩ := Rc.recAt_form hR
  subst e1 e2 e3 e4
  have g := fun w'' (hb2 : Below w'.heap.size w' w'') i hi => wl_cell hb2 (wl_cell hb (hc i hi))
  exact ⟨b, o, p1, q1, p2, q2, p3, q3, p4, q4, ea, Nat.lt_of_lt_of_le (World.block_lt_of_cell? _ _ (hc 0 (by omega))) hb.size, hR.more hb, fun w'' hb2 => ⟨⟨g w'' hb2 0 (by omega), g w'' hb2 1 (by omega), g w'' hb2 2 (by omega), g w'' hb2 3 (by omega), g w'' hb2 4 (by omega), g w'' hb2 5 (by omega), g w'' hb2 6 (by omega)⟩, ⟨g w'' hb2 7 (by omega), g w'' hb2 8 (by omega), g w'' hb2 9 (by omega), g w'' hb2 10 (by omega), g w'' hb2 11 (by omega), g w'' hb2 12 (by omega), g w'' hb2 13 (by omega)⟩⟩⟩
open Go.ChangeShapes Go.WideShapes Go.ChangeAt Go.Deep in
theorem open_recs {H : Type} {enc : TypeId × Value → H} {W : World} {base : Nat} {v : Value} {d : DataW H} {p : List MemPlace} {ts : List TypeId} {ds : List (DataW H)} {j : Nat}
    (hsz : (DataW.weightsEach Tryd.prog ts ds).all (· ≤ reachBytes) = true) (ht : ts[j]? = some 45) (hd : ds[j]? = some d)
    (hval : Value.okWide Tryd.prog W .any base 45 v) (h : DataW.Trod enc Tryd.prog W 0 (fun _ => true) true 45 v d p) : ∃ l, Rc.IsRecs W v l := Rc.open_recs hsz ht hd hval h
theorem row_sz {w : World} {a : Option Addr} {k : Nat} {r : Rc.Rec} (h : Rc.RecRow w a k r) : r.pats.length ≤ 140737488351232 ∧ r.txs.length ≤ 140737488351232 ∧ r.pages.length ≤ 9223372036854775807 ∧ ∀ t ∈ r.txs, t.pages.length ≤ 9223372036854775807 := by
  obtain ⟨_, _, _, _, _, _, _, _, _, h⟩ := h
  exact h
theorem small_of {r : Rc.Rec} (h : Rc.RecOk r) : Rc.Small r := by
  have h1 : r.pages.length ≤ 64 ∧ ∀ x ∈ r.pages, Rc.short x = true := by simpa [Rc.pagesOk] using h.pages
  refine ⟨by omega, by have := h.pats; omega, by have := h.txs; omega, by have := h.dirty; omega, fun t ht => ?_⟩
  have := h.txsOk t ht
  have h2 : Rc.short t.tx = true ∧ Rc.long t.last = true ∧ t.pages.length ≤ 64 ∧ ∀ x ∈ t.pages, Rc.short x = true := by simpa [Rc.txOk, Rc.pagesOk, and_assoc] using this
  omega
theorem same_self (v vp vt vx vd u up ut ux ud : Value) (r : Rc.Rec) (w : World) (h1 : Rc.RecAt w v vp vt vx vd r) (h2 : Rc.RecAt w u up ut ux ud r) (hs : Rc.RecOk r) :
    Calls Tryd.prog 22 #[v, u] w fun e w' => e = .returned (.bool true) ∧ Below w.heap.size w w' := by
  have := Rc.sameR_any v vp vt vx vd u up ut ux ud r r w h1 h2 (small_of hs)
  simpa using this
end Go.Proofs.YtofejnhnnmnfpaaDoor
