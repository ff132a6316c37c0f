/- The record of the law RecordMany. No condition. -/
import Derived.Test.YtikdjbcfckjccaaDoorRecF
import Derived.Deep.DeepCutAuto
import Derived.Deep.CutBlock
namespace Go.Proofs.YtikdjbcfckjccaaDoor
open Go.RowKit
attribute [local go_sem] mk_size
/-- The parts of the record. -/
def txZ : Tt := ⟨0, 0, false, []⟩
def patN (n : Nat) : List Pt := (List.range n).map fun (k : Nat) => ⟨k, 0, [112]⟩
def rMany (a n c d : Nat) : Rec := ⟨7, 0, 0, 0, [], false, Cl.zero, List.replicate a 0, patN n, List.replicate c txZ, List.replicate d (0, 0)⟩
def cellsI (a : Nat) : Array Value := madeCells #[.int .i64 0] a
def cellsT (c : Nat) : Array Value := madeCells #[.int .i64 0, .int .i64 0, .bool false, .slice none 0 0] (c * 4)
def cellsD (d : Nat) : Array Value := madeCells #[.int .i64 0, .int .i64 0] (d * 2)
theorem made_at (z : Array Value) (m : Nat) (hz : z.size = m) (hm : 0 < m) (n j i : Nat) (hj : j < n) (hi : i < m) : (madeCells z (n * m))[j * m + i]? = some z[i]! := by
  have h1 : j * m + i < n * m := by
    have : (j + 1) * m ≤ n * m := Nat.mul_le_mul_right m hj
    rw [Nat.succ_mul] at this; omega
  rw [madeCells, Array.getElem?_map, Array.getElem?_range, if_pos h1]
  simp only [Option.map_some, hz]
  rw [Nat.mul_comm j m, Nat.mul_add_mod, Nat.mod_eq_of_lt hi]
section
variable {w : World} {b : Nat}
theorem isI_made (a : Nat) (h : w.heap[b]? = some (.cells (cellsI a) 3 (0, 0))) : IsI w (.slice (some ⟨b, 0, none⟩) a a) (List.replicate a 0) := by
  refine ⟨_, _, by rw [List.length_replicate], fun j hj => ⟨b, 0, rfl, ?_⟩⟩
  rw [List.length_replicate] at hj
  refine cell_of h ?_
  have := made_at #[.int .i64 0] 1 rfl (by omega) a j 0 hj (by omega)
  simp only [Nat.mul_one, Nat.add_zero] at this
  rw [cellsI, Nat.zero_add, this]
  simp
theorem isT_made (a : Nat) (h : w.heap[b]? = some (.cells (cellsT a) 41 (0, 0))) : IsT w (.slice (some ⟨b, 0, none⟩) a a) (List.replicate a txZ) := by
  refine ⟨_, _, by rw [List.length_replicate], fun j hj => ⟨b, 0, .slice none 0 0, rfl, ?_⟩⟩
  rw [List.length_replicate] at hj
  have q := fun i hi => made_at #[.int .i64 0, .int .i64 0, .bool false, .slice none 0 0] 4 rfl (by omega) a j i hj hi
  have e : (List.replicate a txZ)[j]'(by simpa using hj) = txZ := by simp
  rw [e]
  refine ⟨cell_of h ?_, cell_of h ?_, cell_of h ?_, cell_of h ?_, none, 0, rfl, fun j h => by simp [txZ] at h⟩
  · rw [Nat.zero_add]; exact q 0 (by omega)
  · rw [Nat.zero_add]; exact q 1 (by omega)
  · rw [Nat.zero_add]; exact q 2 (by omega)
  · rw [Nat.zero_add]; exact q 3 (by omega)
theorem isD_made (a : Nat) (h : w.heap[b]? = some (.cells (cellsD a) 55 (0, 0))) : IsD w (.slice (some ⟨b, 0, none⟩) a a) (List.replicate a (0, 0)) := by
  refine ⟨_, _, by rw [List.length_replicate], fun j hj => ⟨b, 0, rfl, ?_⟩⟩
  rw [List.length_replicate] at hj
  have q := fun i hi => made_at #[.int .i64 0, .int .i64 0] 2 rfl (by omega) a j i hj hi
  have e : (List.replicate a ((0, 0) : Int × Int))[j]'(by simpa using hj) = (0, 0) := by simp
  rw [e]
  refine ⟨cell_of h ?_, cell_of h ?_⟩
  · rw [Nat.zero_add]; exact q 0 (by omega)
  · rw [Nat.zero_add]; exact q 1 (by omega)
end
theorem patN_length (n : Nat) : (patN n).length = n := by simp [patN]
theorem patN_succ (n : Nat) : patN (n + 1) = patN n ++ [⟨n, 0, [112]⟩] := by simp [patN, List.range_succ]
theorem many_ok (a n c d : Nat) (hn : n ≤ 60) : recOk (rMany a n c d) = (decide (a ≤ 64) && decide (n ≤ 40) && decide (c ≤ 8) && decide (d ≤ 64)) := by
  have h1 : (List.replicate a (0 : Int)).all short = true := by simp [List.all_eq_true, List.mem_replicate, short]
  have h2 : (patN n).all patOk = true := by
    rw [List.all_eq_true]
    intro p hp
    simp only [patN, List.mem_map, List.mem_range] at hp
    obtain ⟨k, hk, rfl⟩ := hp
    simp [patOk]; omega
  have h3 : (List.replicate c txZ).all txOk = true := by simp only [List.all_eq_true, List.mem_replicate]; rintro x ⟨_, rfl⟩; decide
  have h4 : (List.replicate d ((0, 0) : Int × Int)).all dirOk = true := by simp only [List.all_eq_true, List.mem_replicate]; rintro x ⟨_, rfl⟩; decide
  simp only [recOk, rMany, pagesOk, h1, h2, h3, h4, List.length_replicate, patN_length]
  simp [short, long, Cl.zero]
theorem touch_many (n : Nat) : (touch (patN n)).length = n := by
  have h1 : (patN n).map (·.page) = (List.range n).map fun (k : Nat) => (k : Int) := by simp [patN]
  unfold touch
  rw [h1]
  have hs : ((List.range n).map fun (k : Nat) => (k : Int)).Pairwise (fun x y => decide (x ≤ y) = true) := by
    rw [List.pairwise_map]
    exact List.Pairwise.imp (by intro a b h; simp; omega) List.pairwise_lt_range
  rw [List.mergeSort_of_pairwise hs, Lib.compact_all]
  · simp
  · intro j hj
    by_cases h0 : j = 0
    · subst h0; simp [Lib.keeps]
    · refine Lib.keeps_pos ?_
      simp at hj
      have e1 : ((List.range n).map fun (k : Nat) => (k : Int)).toArray[j]! = (j : Int) := by simp [hj]
      have e2 : ((List.range n).map fun (k : Nat) => (k : Int)).toArray[j - 1]! = ((j - 1 : Nat) : Int) := by
        have : j - 1 < n := by omega
        simp [this]
      rw [e1, e2]; omega
end Go.Proofs.YtikdjbcfckjccaaDoor
