/- alive of the laws on frame. No condition. -/
import Derived.Test.YtaecfgakgpndaaaGreatFAux
import Derived.Test.YtaecfgakgpndaaaGreatFSl
namespace Go.Proofs.YtaecfgakgpndaaaGreat
open Go.RowKit
attribute [local go_sem] mk_size mk_append

/-- A row of two texts that was just made. -/
theorem TAt.new {w : World} (l : List (List UInt8)) (b' : Nat) (t : TypeId) (hb : b' = w.heap.size) : TAt (w.alloc (.cells (scells l).toArray t)) (some ⟨b', 0, none⟩) l := fun j hj => by
  subst hb
  refine ⟨w.heap.size, 0, rfl, ?_⟩
  rw [Nat.zero_add]
  exact cell_of (heap_alloc_new w _) (by simp [scells, hj])
def lA : List (List UInt8) := [[97, 98, 99], [100]]
def sA : List UInt8 := enc 3 0 true (stream lA)
theorem okA : recsOk lA := by intro r hr; simp [lA] at hr; rcases hr with rfl | rfl <;> decide
theorem secsA : secs 3 0 true (stream lA) = [sA] := by
  have h : stream lA = [0, 3, 97, 98, 99, 0, 1, 100] := by decide
  rw [sA, h, secs_cons (by simp), show List.drop 56 ([0, 3, 97, 98, 99, 0, 1, 100] : List UInt8) = [] from rfl, secs_nil]
  rfl
theorem scanA : scan st0 [sA] = ⟨[], true, 1, 3, lA, 1, 3⟩ := by
  have h := scan_batch okA (by simp [lA]) (e := 3) (by omega) (by omega) st0 [] (i := 0) (by decide) rfl (by simp [st0]) (by simp [st0])
  rw [secsA] at h
  rw [show [sA] ++ [] = [sA] from rfl] at h
  rw [h]
  rfl
set_option maxRecDepth 100000 in
set_option maxHeartbeats 1600000 in
theorem alive_true (w : World) : Calls Tryz.prog 5 #[] w fun e w' => e = .returned (.bool true) ∧ Below w.heap.size w w' := by
  go_enter Tryz.func5, Tryz.ntmps5
  go_wp2_with fail
  refine (batch_yes 3 0 (some ⟨w.heap.size, 0, none⟩) 2 lA _ (by decide) (TAt.new lA _ _ rfl) okA (by simp [lA]) (by omega) (by omega) (by decide)).mono ?_
  rintro e w1 ⟨v, rfl, ho, hb⟩
  rw [secsA] at ho
  obtain ⟨a1, c1, rfl, ht1⟩ := TAt.own ho
  obtain ⟨b0, o0, rfl, hc0⟩ := ht1 0 (by simp)
  have hc0' : w1.cell? ⟨b0, o0, none⟩ = some (.string (mk sA)) := hc0
  have htk : mk (sA.take 14) = ⟨#[0, 0, 0, 3, 0, 0, 2, 8, 0, 3, 97, 98, 99, 0]⟩ := by decide
  have hsz : (mk sA).size = 64 := by decide
  have hsl := fun w => sl_to sA 14 14 rfl (by decide) w
  have hbz := hb.size
  have hb1 := Lib.hid (((Below.refl w.heap.size w).alloc (Nat.le_refl _) _).trans (hb.mono (by simp)))
  have ht1' := Lib.hid ht1
  clear hb ho hc0 ht1
  go_wp2_with fail
  refine (scan_any (some ⟨b0, o0, none⟩) c1 [sA] _ _ (by simp) (by simp; decide) ht1'.out scanA).mono ?_
  rintro e w2 ⟨v2, rfl, ho2, hb2⟩
  obtain ⟨a2, c2, rfl, ht2⟩ := TAt.own ho2
  have hc0'' : w2.cell? ⟨b0, o0, none⟩ = some (.string (mk sA)) := (World.cell?_of_block (w := w1) (hb2.block _ (World.block_lt_of_cell? w1 _ hc0'))).trans hc0'
  have hbb2 := Lib.hid (hb1.out.trans (hb2.mono hb1.out.size))
  replace ht2 := Lib.hid ht2
  clear hb2 ho2 hc0'
  go_wp2_with fail
  refine (same_yes a2 (some ⟨w2.heap.size, 0, none⟩) c2 2 lA _ (ht2.out.more ((Below.refl _ _).alloc (Nat.le_refl _) _)) (TAt.new lA _ _ rfl) (by decide)).mono ?_
  rintro e w3 ⟨rfl, hb3⟩
  have hbb3 := Lib.hid (((hbb2.out.alloc hbb2.out.size _)).trans (hb3.mono (by have := hbb2.out.size; simp; omega)))
  have hc3 : w3.cell? ⟨b0, o0, none⟩ = some (.string (mk sA)) := by
    have hz := World.block_lt_of_cell? w2 _ hc0''
    refine (World.cell?_of_block (w := w2.alloc (.cells #[.string ⟨#[97, 98, 99]⟩, .string ⟨#[100]⟩] 9)) (hb3.block _ (by simp; exact Nat.lt_succ_of_lt hz))).trans ?_
    exact ((Below.refl w2.heap.size w2).alloc (Nat.le_refl _) _).cell (p := ⟨b0, o0, none⟩) hz |>.trans hc0''
  clear hb3 hc0'' hbb2 ht2
  go_wp2_with fail
  refine (count_any (some ⟨w3.heap.size, 0, none⟩) 1 [[97, 98, 99]] _ (by decide) (TAt.new [[97, 98, 99]] _ _ rfl)).mono ?_
  rintro e w4 ⟨rfl, hb4⟩
  have hbb4 := Lib.hid (((hbb3.out.alloc hbb3.out.size _)).trans (hb4.mono (by have := hbb3.out.size; simp; omega)))
  clear hb4 hbb3
  rw [show (((bytesOf [[97, 98, 99]]).length + 55) / 56 : Nat) = 1 from by decide]
  go_wp2
  go_ret
  exact ⟨rfl, hbb4.out⟩
end Go.Proofs.YtaecfgakgpndaaaGreat
