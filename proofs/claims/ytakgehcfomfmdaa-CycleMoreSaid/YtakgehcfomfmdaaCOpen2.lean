/- A pair that came in. No condition. -/
import Derived.Test.YtakgehcfomfmdaaCOpen
import Derived.WideKeyPair
namespace Go.Proofs.Ytakgehcfomfmdaa
open Go.ChangeShapes Go.WideShapes Go.ChangeAt Go.RowKit Go.WideMaps

set_option maxRecDepth 100000 in
theorem open_pair1 {H : Type} {enc : TypeId × Value → H} {W : World} {base : Nat} {v : Value} {d : DataW H} {p : List MemPlace} {ts : List TypeId} {ds : List (DataW H)} {j : Nat}
    (_ : (DataW.weightsEach Try.prog ts ds).all (· ≤ reachBytes) = true) (_ : ts[j]? = some 43) (_ : ds[j]? = some d)
    (hval : Value.okWide Try.prog W .any base 43 v) (h : DataW.Trod enc Try.prog W 0 (fun _ => true) true 43 v d p) : ∃ q, IsPair W v q := by
  obtain ⟨a, b, rfl, _, _, wa, wb⟩ := open_pair ⟨Try.underlying43, by kernel_rfl, by kernel_rfl, by kernel_rfl⟩ Try.underlying3 hval h
  exact ⟨(a, b), rfl, wa, wb⟩
end Go.Proofs.Ytakgehcfomfmdaa
