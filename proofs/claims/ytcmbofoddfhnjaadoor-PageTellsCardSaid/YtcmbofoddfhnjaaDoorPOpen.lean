/- A page that came in: its numbers, its body. No condition. -/
import Derived.Test.YtcmbofoddfhnjaaDoorPLaw
import Derived.Test.YtcmbofoddfhnjaaDoorProg
import Derived.ProofKit
import Derived.OpenShut
import Derived.SizedLaws
import Derived.Lib.SmallJoins
namespace Go.Proofs.YtcmbofoddfhnjaaDoor
open Go.ChangeShapes Go.WideShapes Go.ChangeAt Go.RowKit Go.Joins

def pgA (p : Pg) : Value := .agg #[.int .i64 p.kind, .int .i64 p.depth, .int .i64 p.next, .string (mk p.body)]
/-- Its fields. -/
def IsPage (_ : World) (v : Value) (p : Pg) : Prop :=
  v = pgA p ∧ (Lit.int .i64 p.kind).wf = true ∧ (Lit.int .i64 p.depth).wf = true ∧ (Lit.int .i64 p.next).wf = true ∧ p.body.length ≤ 140737488351232
theorem open_page {H : Type} {enc : TypeId × Value → H} {W : World} {base : Nat} {v : Value} {d : DataW H} {p : List MemPlace} {ts : List TypeId} {ds : List (DataW H)} {j : Nat}
    (hsz : (DataW.weightsEach Tryd.prog ts ds).all (· ≤ reachBytes) = true) (ht : ts[j]? = some 23) (hd : ds[j]? = some d)
    (hval : Value.okWide Tryd.prog W .any base 23 v) (h : DataW.Trod enc Tryd.prog W 0 (fun _ => true) true 23 v d p) : ∃ x, IsPage W v x := by
  obtain ⟨c0, c1, c2, c3, y0, y1, y2, y3, n, rfl, rfl, rfl, h0, h1, h2, h3⟩ := open_agg4 Tryd.underlying23 (by kernel_rfl) (by kernel_rfl) hval h
  obtain ⟨a0, e0, f0, g0⟩ := DataW.trod_int Tryd.underlying3 h0
  obtain ⟨a1, e1, f1, g1⟩ := DataW.trod_int Tryd.underlying3 h1
  obtain ⟨a2, e2, f2, g2⟩ := DataW.trod_int Tryd.underlying3 h2
  obtain ⟨s, e3, f3, f4⟩ := DataW.trod_string Tryd.underlying9 h3
  cases e0
  cases e1
  cases e2
  cases e3
  refine ⟨⟨a0, a1, a2, s.data.toList⟩, by simp [pgA, mk_of], g0, g1, g2, ?_⟩
  subst f3
  have := List.all_eq_true.1 hsz _ (DataW.weights_mem_each ht hd s.data.toList.length (by
    simp only [DataW.weights, Tryd.underlying23]
    simp [DataW.weightsEach, DataW.weights]))
  have h2 := of_decide_eq_true this
  rw [Array.length_toList] at h2 ⊢
  exact h2
end Go.Proofs.YtcmbofoddfhnjaaDoor
