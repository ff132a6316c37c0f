/- alive and Zeros of the laws on page. No condition but the table of spaces. -/
import Derived.Test.YtcmbofoddfhnjaaDoorPGet
namespace Go.Proofs.YtcmbofoddfhnjaaDoor
open Go.RowKit
attribute [local go_sem] mk_size mk_append lit_append zs_length

def pA : Pg := ⟨3, 2, 0, zs 240⟩
def bA : List UInt8 := penc pA
theorem okA : pgOk pA = true := by rw [pgOk_iff]; simp [pA, zs_length]
theorem putA : putV pA = .tuple #[.string (mk bA), .bool true] := by rw [putV, if_pos okA]; rfl
theorem decA : pdec bA = some pA := pdec_penc okA
theorem lenA : bA.length = 256 := penc_length (zs_length 240)
set_option maxRecDepth 100000 in
set_option maxHeartbeats 1600000 in
theorem alive_true (w : World) (hT : Tab w) : Calls Tryd.prog 9 #[] w fun e w' => e = .returned (.bool true) ∧ Below w.heap.size w w' := by
  have hsl := fun w => sl_to bA 6 6 rfl (by rw [lenA]; omega) w
  have htk : mk (bA.take 6) = ⟨#[80, 71, 3, 2, 0, 0]⟩ := by
    rw [show bA.take 6 = [80, 71, 3, 2, 0, 0] from rfl]; rfl
  have hlen : (mk bA).size = 256 := by rw [mk_size, lenA]
  have hnm : mk (nameOf 5) = ⟨#[98, 108, 111, 98]⟩ := rfl
  go_enter Tryd.func9, Tryd.ntmps9
  go_wp2_with fail
  refine (empty_any 3 2 _).mono ?_
  rintro e w1 ⟨rfl, h1⟩
  have hT1 := hT.more h1
  replace h1 := Lib.hid h1
  go_wp2_with fail
  have hT1' : Tab (w1.alloc (.cells #[.int .i64 3, .int .i64 2, .int .i64 0, .string (mk (zs 240))] 23)) := hT1.more ((Below.refl _ _).alloc (Nat.le_refl _) _)
  refine (put_any 3 2 0 (zs 240) _ hT1' (by rw [zs_length]; omega)).mono ?_
  rintro e w2 ⟨rfl, h2⟩
  rw [show putV ⟨3, 2, 0, zs 240⟩ = .tuple #[.string (mk bA), .bool true] from putA]
  have hp := (h2.block _ (lt_of (heap_alloc_new w1 _))).trans (heap_alloc_new w1 (.cells #[.int .i64 3, .int .i64 2, .int .i64 0, .string (mk (zs 240))] 23))
  have hT2 := hT1'.more h2
  have hz1 := h1.out.size
  replace h2 := Lib.hid ((h1.out.alloc hz1 _).trans (h2.mono (by simp; omega)))
  clear h1 hT1 hT1' hT
  replace hp := Lib.hid hp
  go_wp2_with fail
  refine (get_any bA _ hT2 (by rw [lenA]; omega)).mono ?_
  rintro e w3 ⟨rfl, h3⟩
  rw [decA, pgV]
  have hp3 := (h3.block _ (lt_of hp.out)).trans hp.out
  have c0 : w3.cell? ⟨w1.heap.size, 0, none⟩ = some (.int .i64 3) := cell_of hp3 rfl
  have c1 : w3.cell? ⟨w1.heap.size, 1, none⟩ = some (.int .i64 2) := cell_of hp3 rfl
  have c2 : w3.cell? ⟨w1.heap.size, 2, none⟩ = some (.int .i64 0) := cell_of hp3 rfl
  have c3 : w3.cell? ⟨w1.heap.size, 3, none⟩ = some (.string (mk (zs 240))) := cell_of hp3 rfl
  have hlt : w1.heap.size < w3.heap.size := lt_of hp3
  have hT3 := hT2.more h3
  have hT3' : ∀ o, Tab (w3.alloc o) := fun o => hT3.more ((Below.refl _ _).alloc (Nat.le_refl _) _)
  replace h3 := Lib.hid (h2.out.trans (h3.mono h2.out.size))
  replace hp3 := Lib.hid hp3
  replace hT3' := Lib.hid hT3'
  clear h2 hp hT2 hT3
  simp only [pA]
  go_wp2_with fail
  refine (name_any 5 _ (hT3'.out _)).mono ?_
  rintro e w4 ⟨rfl, h4⟩
  go_wp2
  go_ret
  exact ⟨rfl, (h3.out.alloc h3.out.size _).trans (h4.mono (by have := h3.out.size; simp; omega))⟩
end Go.Proofs.YtcmbofoddfhnjaaDoor
