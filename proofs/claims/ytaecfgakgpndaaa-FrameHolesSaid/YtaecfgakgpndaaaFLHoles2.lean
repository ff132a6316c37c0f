/- The walk of the law FrameHoles, whatever comes in. No condition. -/
import Derived.Test.YtaecfgakgpndaaaFLHoles
import Derived.Test.YtaecfgakgpndaaaFOpen2
namespace Go.Proofs.Ytaecfgakgpndaaa
open Go.RowKit
attribute [local go_sem] mk_size mk_append

/-- Its length, its cells, its capacity. -/
def IsTextc (w : World) (v : Value) (l : List (List UInt8)) : Prop := ∃ a c, v = .slice a l.length c ∧ TAt w a l ∧ l.length ≤ 140737488351232 ∧ (∀ b ∈ l, b.length ≤ 140737488351232) ∧ l.length ≤ c
open Go.WideShapes Go.ChangeShapes in
theorem open_textc {H : Type} {enc : TypeId × Value → H} {W : World} {base : Nat} {v : Value} {d : DataW H} {p : List MemPlace} {ts : List TypeId} {ds : List (DataW H)} {j : Nat}
    (hsz : (DataW.weightsEach Try.prog ts ds).all (· ≤ reachBytes) = true) (ht : ts[j]? = some 25) (hd : ds[j]? = some d)
    (hval : Value.okWide Try.prog W .any base 25 v) (h : DataW.Trod enc Try.prog W 0 (fun _ => true) true 25 v d p) : ∃ l, IsTextc W v l := by
  obtain ⟨l, a, c, rfl, h1, h2, h3⟩ := open_texts hsz ht hd hval h
  refine ⟨l, a, c, rfl, h1, h2, h3, ?_⟩
  obtain ⟨fuel, hf⟩ := h
  rcases open_strings Try.underlying25 Try.underlying9 (by kernel_rfl) hf with ⟨hcs, _⟩ | ⟨a', len', cap', ss, hcs, _, hl, _⟩
  · simp [Value.cells] at hcs
    obtain ⟨_, rfl, _⟩ := hcs
    simp
  · simp [Value.cells] at hcs
    omega
set_option maxRecDepth 100000 in
set_option maxHeartbeats 1600000 in
theorem frameHoles_walk (v1 : Value) (A : List (List UInt8)) (v2 : Value) (O : List (List UInt8)) (v3 : Value) (L : List (List UInt8)) (v4 : Value) (G : List (List UInt8)) (v5 : Value) (K : List Bool) (w : World) (hA : IsTexts w v1 A) (hO : IsTexts w v2 O) (hL : IsTextc w v3 L) (hG : IsTexts w v4 G) (hK : IsBools w v5 K) :
    Calls Try.prog 4 #[v1, v2, v3, v4, v5] w fun e w' => e = .returned (.bool true) ∧ Below w.heap.size w w' := by
  obtain ⟨a1, c1, rfl, hA, hAl, hAz⟩ := hA
  obtain ⟨a2, c2, rfl, hO, hOl, hOz⟩ := hO
  obtain ⟨a3, c3, rfl, hL, hLl, hLz, hLc⟩ := hL
  obtain ⟨a4, c4, rfl, hG, hGl, hGz⟩ := hG
  obtain ⟨a5, c5, rfl, hK⟩ := hK
  cases f1 : fewB A with
  | false =>
    go_enter Try.func4, Try.ntmps4
    go_wp2_with fail
    refine (few_any a1 c1 A _ hA hAl hAz).mono ?_
    rintro e w2 ⟨rfl, rfl⟩
    rw [f1]
    go_wp2_with (go_at_call 11; refine (alive_true _).mono ?_; rintro e w3 ⟨rfl, h3⟩)
    go_ret
    exact ⟨rfl, h3⟩
  | true =>
  cases f2 : fewB O with
  | false =>
    go_enter Try.func4, Try.ntmps4
    go_wp2_with fail
    refine (few_any a1 c1 A _ hA hAl hAz).mono ?_
    rintro e w2 ⟨rfl, rfl⟩
    rw [f1]
    go_wp2_with fail
    refine (few_any a2 c2 O _ hO hOl hOz).mono ?_
    rintro e w2 ⟨rfl, rfl⟩
    rw [f2]
    go_wp2_with (go_at_call 11; refine (alive_true _).mono ?_; rintro e w3 ⟨rfl, h3⟩)
    go_ret
    exact ⟨rfl, h3⟩
  | true =>
  cases f3 : fewB L with
  | false =>
    go_enter Try.func4, Try.ntmps4
    go_wp2_with fail
    refine (few_any a1 c1 A _ hA hAl hAz).mono ?_
    rintro e w2 ⟨rfl, rfl⟩
    rw [f1]
    go_wp2_with fail
    refine (few_any a2 c2 O _ hO hOl hOz).mono ?_
    rintro e w2 ⟨rfl, rfl⟩
    rw [f2]
    go_wp2_with fail
    refine (few_any a3 c3 L _ hL hLl hLz).mono ?_
    rintro e w2 ⟨rfl, rfl⟩
    rw [f3]
    go_wp2_with (go_at_call 11; refine (alive_true _).mono ?_; rintro e w3 ⟨rfl, h3⟩)
    go_ret
    exact ⟨rfl, h3⟩
  | true =>
  cases f4 : fewB G with
  | false =>
    go_enter Try.func4, Try.ntmps4
    go_wp2_with fail
    refine (few_any a1 c1 A _ hA hAl hAz).mono ?_
    rintro e w2 ⟨rfl, rfl⟩
    rw [f1]
    go_wp2_with fail
    refine (few_any a2 c2 O _ hO hOl hOz).mono ?_
    rintro e w2 ⟨rfl, rfl⟩
    rw [f2]
    go_wp2_with fail
    refine (few_any a3 c3 L _ hL hLl hLz).mono ?_
    rintro e w2 ⟨rfl, rfl⟩
    rw [f3]
    go_wp2_with fail
    refine (few_any a4 c4 G _ hG hGl hGz).mono ?_
    rintro e w2 ⟨rfl, rfl⟩
    rw [f4]
    go_wp2_with (go_at_call 11; refine (alive_true _).mono ?_; rintro e w3 ⟨rfl, h3⟩)
    go_ret
    exact ⟨rfl, h3⟩
  | true =>
  by_cases d1 : 60 < (K.length : Int)
  · go_enter Try.func4, Try.ntmps4
    go_wp2_with fail
    refine (few_any a1 c1 A _ hA hAl hAz).mono ?_
    rintro e w2 ⟨rfl, rfl⟩
    rw [f1]
    go_wp2_with fail
    refine (few_any a2 c2 O _ hO hOl hOz).mono ?_
    rintro e w2 ⟨rfl, rfl⟩
    rw [f2]
    go_wp2_with fail
    refine (few_any a3 c3 L _ hL hLl hLz).mono ?_
    rintro e w2 ⟨rfl, rfl⟩
    rw [f3]
    go_wp2_with fail
    refine (few_any a4 c4 G _ hG hGl hGz).mono ?_
    rintro e w2 ⟨rfl, rfl⟩
    rw [f4]
    go_wp2_with (go_at_call 11; refine (alive_true _).mono ?_; rintro e w3 ⟨rfl, h3⟩)
    go_ret
    exact ⟨rfl, h3⟩
  · exact frameHoles_main a1 a2 a3 a4 a5 c1 c2 c3 c4 c5 A O L G K w hA hO hL hG hK f1 f2 f3 f4 (by omega) hLc
end Go.Proofs.Ytaecfgakgpndaaa
