/- test -/
import Derived.Test.YtfjdnoonediibaaI1
import Derived.Test.YtfjdnoonediibaaP1
namespace Go.Proofs.Ytfjdnoonediibaa
open Go.RowKit

theorem packNothing_walk (k : Int) (w : World) (w0 : (Lit.int .i64 k).wf = true) :
    Calls Try.prog 7 #[.int .i64 k] w fun e w' => e = .returned (.bool true) ∧ Below w.heap.size w w' := by
  obtain ⟨m, hm, hml⟩ := modfix k 3 (by omega) (by omega)
  rcases (show m = 0 ∨ m = 1 ∨ m = 2 by omega) with rfl | rfl | rfl
  all_goals
    go_enter Try.func7, Try.ntmps7
    go_wp2_with (go_at_call 10; refine (alive_true _).mono ?_; rintro e w1 ⟨rfl, h⟩)
    refine (iDone (WIn.new w1)).mono ?_
    rintro e w3 ⟨rfl, rfl⟩
    have e1 : dones [] false = [] := rfl
    rw [e1]
    clear e1
    go_wp2_with fail
    have e1 : (⟨#[]⟩ : ByteArray) = mk [] := rfl
    rw [e1]
    clear e1
    refine (iFrom (l := []) (WIn.new w1).was.1 (WIn.new w1).was.2).mono ?_
    rintro e w5 ⟨R, rfl, h5⟩
    replace h5 := Lib.hid h5
    go_wp2_with fail
    refine (jEnd h5.out).mono ?_
    rintro e w6 ⟨rfl, h6⟩
    replace h6 := Lib.hid h6
    go_wp2_with fail
    refine (jBad h6.out).mono ?_
    rintro e w7 ⟨rfl, rfl⟩
    go_wp2_with fail
    first
      | refine (jNum (n := 0) (l' := []) (b' := true) rfl h6.out).mono ?_
      | refine (jLong (n := 0) (l' := []) (b' := true) rfl h6.out).mono ?_
      | refine (jText (s := []) (l' := []) (b' := true) rfl h6.out).mono ?_
    rintro e w8 ⟨rfl, h8⟩
    replace h8 := Lib.hid h8
    go_wp2_with fail
    refine (jBad h8.out).mono ?_
    rintro e w9 ⟨rfl, rfl⟩
    go_wp2_with fail
    refine (jEnd h8.out).mono ?_
    rintro e w6 ⟨rfl, h9⟩
    replace h9 := Lib.hid h9
    go_wp2
    go_ret
    exact ⟨rfl, h.trans (h9.out.2.2.1.mono h.size)⟩
end Go.Proofs.Ytfjdnoonediibaa
