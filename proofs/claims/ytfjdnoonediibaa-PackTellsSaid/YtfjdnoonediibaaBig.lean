/- Big of the reference: a number in so many bytes. No condition. -/
import Derived.Test.YtfjdnoonediibaaI1
import Derived.Test.YtfjdnoonediibaaP1
import Derived.Laws.Bits128
namespace Go.Proofs.Ytfjdnoonediibaa
open Go.RowKit

theorem and255 (n : Int) : bits .and .i64 n 255 = n % 256 := by
  have h255 : (BitVec.ofInt 64 255).toNat = 2 ^ 8 - 1 := by decide
  have key : (BitVec.ofInt 64 n &&& BitVec.ofInt 64 255).toNat = (n % ((2 ^ 64 : Nat) : Int)).toNat % 2 ^ 8 := by
    rw [BitVec.toNat_and, BitVec.toNat_ofInt, h255, Nat.and_two_pow_sub_one_eq_mod]
  show IntKind.i64.wrap ((BitVec.ofInt 64 n &&& BitVec.ofInt 64 255).toNat : Nat) = n % 256
  rw [key, IntKind.wrap_i64]
  omega
theorem bcells_set (l : List UInt8) (j : Nat) (u : UInt8) (y : Int) (h : (u.toNat : Int) = y) : (bcells l).toArray.setIfInBounds j (.int .u8 y) = (bcells (l.set j u)).toArray := by
  subst h
  simp [bcells, List.map_set]
theorem drop_set (l : List UInt8) (j : Nat) (u : UInt8) (h : j < l.length) : (l.set j u).drop j = u :: l.drop (j + 1) := by
  rw [List.drop_eq_getElem_cons (by simpa using h), List.getElem_set_self, List.drop_set_of_lt (by omega)]

theorem made_block {w : World} {base g n : Nat} (h : w.ownsRow base 5 1 (.slice (some ⟨g, 0, none⟩) n n) n (madeCells (Value.int .u8 0).cells (n * 1)).toList) : w.heap[g]? = some (.cells (bcells (List.replicate n 0)).toArray 5 (0, 0)) := by
  rw [show (Value.int .u8 0).cells = #[Value.int .u8 0] from rfl, toList_madeCells_one, Nat.mul_one] at h
  rcases h.2 with ⟨h0, _⟩ | ⟨g', c, cur, hv, _, hg, _, _, hs, ht⟩
  · cases h0
  · simp only [Value.slice.injEq, Option.some.injEq, true_and] at hv
    obtain ⟨e, rfl⟩ := hv
    cases e
    rw [Nat.mul_one] at hs ht
    have : cur.toList = List.replicate n (Value.int .u8 0) := by
      rw [← ht, List.take_of_length_le (by rw [Array.length_toList, hs]; exact Nat.le_refl _)]
    rw [hg]
    congr 2
    apply Array.ext'
    rw [this]
    simp [bcells]
theorem big_step (l : List UInt8) (n j : Nat) (v y : Int) (u : UInt8) (hj : j < n) (hl : l.length = n) (hy : y = v / (256 : Int) ^ (n - (j + 1))) (hu : (u.toNat : Int) = y % 256) (h : 0 ≤ v → l.drop (j + 1) = be (n - (j + 1)) v.toNat) (h0 : 0 ≤ v) : (l.set j u).drop j = be (n - j) v.toNat := by
  rw [drop_set l j u (by omega), h h0, show n - j = (n - (j + 1)) + 1 by omega, be]
  congr 1
  obtain ⟨x, rfl⟩ := Int.eq_ofNat_of_zero_le h0
  have e : y = ((x / 256 ^ (n - (j + 1)) : Nat) : Int) := by rw [hy]; simp
  rw [e] at hu
  apply UInt8.toNat_inj.1
  rw [UInt8.toNat_ofNat', Int.toNat_natCast]
  omega

set_option maxHeartbeats 1600000 in
theorem big_any (v : Int) (n : Nat) (w : World) (hn : n ≤ 100) : Calls Try.prog 21 #[.int .i64 v, .int .i64 n] w fun e w' => ∃ l ok, e = .returned (.tuple #[.string (mk l), .bool ok]) ∧ l.length = n ∧ ok = decide (0 ≤ v ∧ v / (256 : Int) ^ n = 0) ∧ (0 ≤ v → l = be n v.toNat) ∧ Below w.heap.size w w' := by
  obtain ⟨i, hi, hz0, hz1, hz2⟩ := info_parts Try.info5
  go_enter Try.func21, Try.ntmps21
  go_wp2_with (at_make; refine wpList_make_full _ rfl _ _ 24 rfl w.heap.size 5 i (.int .u8 0) 1 Try.underlying24 hi hz0 hz1 _ _ _ _ n rfl rfl rfl rfl (by rw [hz2]; omega) (by unfold maxLen; omega) (Nat.le_refl _) ?_; intro w1 hown hgrow; have hbel := (Below.refl w.heap.size w).grown hgrow (Nat.le_refl _) (fun _ h => by cases h); have HO := Lib.hid hown; clear hown hgrow)
  have hb1 := made_block HO.out
  have hsz := lt_of hb1
  clear HO
  obtain ⟨g, hg⟩ : ∃ g, g = w.heap.size := ⟨_, rfl⟩
  rw [← hg] at hb1 ⊢
  replace hb1 := Lib.hid hb1
  replace hg := Lib.hid hg
  go_loopw [7, 8] (fun y c wr => ∃ (k : Nat) (l : List UInt8) (z : Int), k ≤ n ∧ c = .int .i64 ((k : Int) - 1) ∧ y = .int .i64 z ∧ z = v / (256 : Int) ^ (n - k) ∧ l.length = n ∧ (0 ≤ v → l.drop k = be (n - k) v.toNat) ∧ wr.heap[g]? = some (.cells (bcells l).toArray 5 (0, 0)) ∧ Below w.heap.size w wr) (fun _ c _ => (intOf c + 1).toNat)
  case atStart => exact ⟨n, List.replicate n 0, v, Nat.le_refl _, rfl, rfl, by simp, by simp, fun _ => by simp [be], hb1.out, hbel⟩
  case round =>
    obtain ⟨k, l, z, hk, rfl, rfl, hz, hl, hd, hb, hbl⟩ := hrel
    replace hz := Lib.hid hz
    replace hd := Lib.hid hd
    have HB := Lib.hid hb
    replace hbl := Lib.hid hbl
    cases k with
    | zero =>
      have hcv : (convert 24 9 (.slice (some ⟨g, 0, none⟩) n n)).run Try.prog wr = .ok (.string (mk l)) wr := by
        have C := run_convert_bytes_back (P := Try.prog) wr 24 9 5 ⟨g, 0, none⟩ n l Try.underlying24 Try.underlying5 Try.underlying9 (by
          intro i hi
          rw [Addr.add_lit]
          refine cell_of hb ?_
          simp [bcells, hi])
        rw [hl] at C
        exact C
      clear hb
      rw [Nat.sub_zero] at hz hd
      rw [List.drop_zero] at hd
      by_cases h0 : 0 ≤ v
      · have hge : decide (0 ≤ v) = true := by simpa using h0
        go_wp2
        go_ret2
        refine ⟨l, _, rfl, hl, ?_, hd.out, hbl.out⟩
        rw [← hz.out]
        by_cases hz0 : z = 0
        · simp [hz0, h0]
        · simp [hz0]
      · have hge : decide (0 ≤ v) = false := by simpa using h0
        go_wp2
        go_ret2
        exact ⟨l, rfl, hl, hd.out, hbl.out⟩
    | succ j =>
      obtain ⟨u, hu⟩ : ∃ u : UInt8, (u.toNat : Int) = z % 256 := ⟨UInt8.ofNat (z % 256).toNat, by rw [UInt8.toNat_ofNat']; omega⟩
      have hcell : wr.cell? ⟨g, j, none⟩ = some (.int .u8 (l[j]'(by omega)).toNat) := by
        refine cell_of hb ?_
        simp [bcells, show j < l.length by omega]
      have hfz : wr.frozen? ⟨g, j, none⟩ = false := free_of hb
      have hglt := lt_of hb
      have e1 : (((j + 1 : Nat) : Int) - 1) = (j : Int) := by omega
      rw [e1]
      have h255 := and255 z
      clear hb e1
      go_wp2
      go_roundw
      case rel =>
        refine ⟨j, l.set j u, z / 256, by omega, rfl, rfl, ?_, by simpa using hl, fun h => big_step l n j v z u (by omega) hl hz.out hu hd.out h, ?_, ?_⟩
        · rw [hz.out, show n - j = (n - (j + 1)) + 1 by omega, Int.pow_succ, Int.ediv_ediv_of_nonneg (Int.le_of_lt (Int.pow_pos (by decide)))]
        · rw [← bcells_set l j u (z % 256) hu]
          exact heap_setCell HB.out _
        · exact hbl.out.setCell (Nat.le_of_eq hg.out.symm) _
      case measure => simp [intOf]
end Go.Proofs.Ytfjdnoonediibaa
