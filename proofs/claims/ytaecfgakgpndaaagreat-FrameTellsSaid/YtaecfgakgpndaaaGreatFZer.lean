/- Zeros that are made; the reference's Zeros. No condition. -/
import Derived.Test.YtaecfgakgpndaaaGreatFPlain
import Derived.Test.YtaecfgakgpndaaaGreatProg
namespace Go.Proofs.YtaecfgakgpndaaaGreat
open Go.RowKit
theorem infoU8z : (Tryz.prog.info? 5).map (fun i => (i.zero, i.size, i.bytes)) = some (some (.int .u8 0), 1, 1) := by kernel_rfl
theorem zeros_made {w w1 : World} {n : Nat} (hown : w1.ownsRow w.heap.size 5 1 (.slice (some ⟨w.heap.size, 0, none⟩) n n) n (madeCells (Value.int .u8 0).cells (n * 1)).toList) (hgrow : w.grownBy w1 none) :
    Below w.heap.size w w1 ∧ (convert 60 9 (.slice (some ⟨w.heap.size, 0, none⟩) n n)).run Tryz.prog w1 = .ok (.string (mk (List.replicate n 0))) w1 := by
  refine ⟨(Below.refl _ _).grown hgrow (Nat.le_refl _) (fun _ h => by cases h), ?_⟩
  rw [show (Value.int .u8 0).cells = #[Value.int .u8 0] from rfl, toList_madeCells_one, Nat.mul_one] at hown
  refine run_string_own 60 9 Tryz.underlying60 Tryz.underlying5 Tryz.underlying9 (base := w.heap.size) (n := n) ?_
  have e : bcells (List.replicate n 0) = List.replicate n (Value.int .u8 0) := by simp [bcells]
  rw [e]
  exact hown
theorem refZeros_any (n : Nat) (w : World) (h : n ≤ 100000) : Calls Tryz.prog 27 #[.int .i64 n] w fun e w' => e = .returned (.string (mk (List.replicate n 0))) ∧ Below w.heap.size w w' := by
  obtain ⟨i, hi, hz0, hz1, hz2⟩ := info_parts infoU8z
  go_enter Tryz.func27, Tryz.ntmps27
  go_wp2_with (at_make; refine wpList_make_full _ rfl _ _ 60 rfl w.heap.size 5 i (.int .u8 0) 1 Tryz.underlying60 hi hz0 hz1 _ _ _ _ n rfl rfl rfl rfl (by rw [hz2]; omega) (by unfold maxLen; omega) (Nat.le_refl _) ?_; intro w1 hown hgrow; have hb := zeros_made hown hgrow; have hcv := hb.2; have hbel := hb.1; clear hb hown hgrow)
  go_ret
  exact ⟨rfl, hbel⟩
end Go.Proofs.YtaecfgakgpndaaaGreat
