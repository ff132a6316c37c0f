/- Put of package page where it answers no; Empty; Get. No condition but the table of spaces. -/
import Derived.Test.YtcmbofoddfhnjaaDoorPPut
namespace Go.Proofs.YtcmbofoddfhnjaaDoor
open Go.RowKit
attribute [local go_sem] mk_size mk_append lit_append zs_length

set_option maxHeartbeats 800000 in
theorem put_no_k (k d n : Int) (body : List UInt8) (w : World) (hT : Tab w) (hbl : body.length ≤ 140737488351232) (k1 : k < 0 ∨ 5 < k) :
    Calls Tryd.prog 10 #[.agg #[.int .i64 k, .int .i64 d, .int .i64 n, .string (mk body)]] w fun en w' => en = .returned (.tuple #[.string ByteArray.empty, .bool false]) ∧ Below w.heap.size w w' := by
  have hT1 : Tab (w.alloc (.cells #[.int .i64 k, .int .i64 d, .int .i64 n, .string (mk body)] 23)) := hT.more ((Below.refl _ _).alloc (Nat.le_refl _) _)
  obtain ⟨nm, hnm⟩ : ∃ nm, nm = nameOf k := ⟨_, rfl⟩
  have hnm1 : nm = [] := by
    rw [hnm, nameOf]
    split
    · rw [List.getD, List.getElem?_eq_none (by rw [kinds_len]; omega)]; rfl
    · rfl
  subst hnm1
  replace hnm := Lib.hid hnm
  go_enter Tryd.func10, Tryd.ntmps10
  go_wp2_with fail
  refine (name_any k _ hT1).mono ?_
  rintro en w1 ⟨rfl, hb1⟩
  rw [← hnm.out]
  obtain ⟨c0, c1, c2, c3, hb2⟩ := (PgS.start w k d n body 23).more hb1
  clear hb1 hT1 hT
  go_wp2
  go_ret2
  exact ⟨rfl, hb2.out⟩
set_option maxHeartbeats 800000 in
theorem put_no_d1 (k d n : Int) (body : List UInt8) (w : World) (hT : Tab w) (hbl : body.length ≤ 140737488351232) (k1 : 0 ≤ k) (k2 : k ≤ 5) (d1 : d < 0) :
    Calls Tryd.prog 10 #[.agg #[.int .i64 k, .int .i64 d, .int .i64 n, .string (mk body)]] w fun en w' => en = .returned (.tuple #[.string ByteArray.empty, .bool false]) ∧ Below w.heap.size w w' := by
  have hT1 : Tab (w.alloc (.cells #[.int .i64 k, .int .i64 d, .int .i64 n, .string (mk body)] 23)) := hT.more ((Below.refl _ _).alloc (Nat.le_refl _) _)
  obtain ⟨nm, hnm⟩ : ∃ nm, nm = nameOf k := ⟨_, rfl⟩
  have hnm1 : nm.isEmpty = false := by
    obtain ⟨m, rfl⟩ := Int.eq_ofNat_of_zero_le (show 0 ≤ k by omega)
    rw [hnm, nameOf, if_pos (by omega), Int.toNat_natCast]
    rcases (show m = 0 ∨ m = 1 ∨ m = 2 ∨ m = 3 ∨ m = 4 ∨ m = 5 by omega) with rfl | rfl | rfl | rfl | rfl | rfl <;> rfl
  replace hnm := Lib.hid hnm
  go_enter Tryd.func10, Tryd.ntmps10
  go_wp2_with fail
  refine (name_any k _ hT1).mono ?_
  rintro en w1 ⟨rfl, hb1⟩
  rw [← hnm.out]
  obtain ⟨c0, c1, c2, c3, hb2⟩ := (PgS.start w k d n body 23).more hb1
  clear hb1 hT1 hT
  go_wp2
  go_ret2
  exact ⟨rfl, hb2.out⟩
set_option maxHeartbeats 800000 in
theorem put_no_d2 (k d n : Int) (body : List UInt8) (w : World) (hT : Tab w) (hbl : body.length ≤ 140737488351232) (k1 : 0 ≤ k) (k2 : k ≤ 5) (d1 : 0 ≤ d) (d2 : 5 < d) :
    Calls Tryd.prog 10 #[.agg #[.int .i64 k, .int .i64 d, .int .i64 n, .string (mk body)]] w fun en w' => en = .returned (.tuple #[.string ByteArray.empty, .bool false]) ∧ Below w.heap.size w w' := by
  have hT1 : Tab (w.alloc (.cells #[.int .i64 k, .int .i64 d, .int .i64 n, .string (mk body)] 23)) := hT.more ((Below.refl _ _).alloc (Nat.le_refl _) _)
  obtain ⟨nm, hnm⟩ : ∃ nm, nm = nameOf k := ⟨_, rfl⟩
  have hnm1 : nm.isEmpty = false := by
    obtain ⟨m, rfl⟩ := Int.eq_ofNat_of_zero_le (show 0 ≤ k by omega)
    rw [hnm, nameOf, if_pos (by omega), Int.toNat_natCast]
    rcases (show m = 0 ∨ m = 1 ∨ m = 2 ∨ m = 3 ∨ m = 4 ∨ m = 5 by omega) with rfl | rfl | rfl | rfl | rfl | rfl <;> rfl
  replace hnm := Lib.hid hnm
  go_enter Tryd.func10, Tryd.ntmps10
  go_wp2_with fail
  refine (name_any k _ hT1).mono ?_
  rintro en w1 ⟨rfl, hb1⟩
  rw [← hnm.out]
  obtain ⟨c0, c1, c2, c3, hb2⟩ := (PgS.start w k d n body 23).more hb1
  clear hb1 hT1 hT
  go_wp2
  go_ret2
  exact ⟨rfl, hb2.out⟩
set_option maxHeartbeats 800000 in
theorem put_no_n1 (k d n : Int) (body : List UInt8) (w : World) (hT : Tab w) (hbl : body.length ≤ 140737488351232) (k1 : 0 ≤ k) (k2 : k ≤ 5) (d1 : 0 ≤ d) (d2 : d ≤ 5) (n1 : n < 0) :
    Calls Tryd.prog 10 #[.agg #[.int .i64 k, .int .i64 d, .int .i64 n, .string (mk body)]] w fun en w' => en = .returned (.tuple #[.string ByteArray.empty, .bool false]) ∧ Below w.heap.size w w' := by
  have hT1 : Tab (w.alloc (.cells #[.int .i64 k, .int .i64 d, .int .i64 n, .string (mk body)] 23)) := hT.more ((Below.refl _ _).alloc (Nat.le_refl _) _)
  obtain ⟨nm, hnm⟩ : ∃ nm, nm = nameOf k := ⟨_, rfl⟩
  have hnm1 : nm.isEmpty = false := by
    obtain ⟨m, rfl⟩ := Int.eq_ofNat_of_zero_le (show 0 ≤ k by omega)
    rw [hnm, nameOf, if_pos (by omega), Int.toNat_natCast]
    rcases (show m = 0 ∨ m = 1 ∨ m = 2 ∨ m = 3 ∨ m = 4 ∨ m = 5 by omega) with rfl | rfl | rfl | rfl | rfl | rfl <;> rfl
  replace hnm := Lib.hid hnm
  go_enter Tryd.func10, Tryd.ntmps10
  go_wp2_with fail
  refine (name_any k _ hT1).mono ?_
  rintro en w1 ⟨rfl, hb1⟩
  rw [← hnm.out]
  obtain ⟨c0, c1, c2, c3, hb2⟩ := (PgS.start w k d n body 23).more hb1
  clear hb1 hT1 hT
  go_wp2
  go_ret2
  exact ⟨rfl, hb2.out⟩
set_option maxHeartbeats 800000 in
theorem put_no_n2 (k d n : Int) (body : List UInt8) (w : World) (hT : Tab w) (hbl : body.length ≤ 140737488351232) (k1 : 0 ≤ k) (k2 : k ≤ 5) (d1 : 0 ≤ d) (d2 : d ≤ 5) (n1 : 0 ≤ n) (n2 : 64 ≤ n) :
    Calls Tryd.prog 10 #[.agg #[.int .i64 k, .int .i64 d, .int .i64 n, .string (mk body)]] w fun en w' => en = .returned (.tuple #[.string ByteArray.empty, .bool false]) ∧ Below w.heap.size w w' := by
  have hT1 : Tab (w.alloc (.cells #[.int .i64 k, .int .i64 d, .int .i64 n, .string (mk body)] 23)) := hT.more ((Below.refl _ _).alloc (Nat.le_refl _) _)
  obtain ⟨nm, hnm⟩ : ∃ nm, nm = nameOf k := ⟨_, rfl⟩
  have hnm1 : nm.isEmpty = false := by
    obtain ⟨m, rfl⟩ := Int.eq_ofNat_of_zero_le (show 0 ≤ k by omega)
    rw [hnm, nameOf, if_pos (by omega), Int.toNat_natCast]
    rcases (show m = 0 ∨ m = 1 ∨ m = 2 ∨ m = 3 ∨ m = 4 ∨ m = 5 by omega) with rfl | rfl | rfl | rfl | rfl | rfl <;> rfl
  replace hnm := Lib.hid hnm
  go_enter Tryd.func10, Tryd.ntmps10
  go_wp2_with fail
  refine (name_any k _ hT1).mono ?_
  rintro en w1 ⟨rfl, hb1⟩
  rw [← hnm.out]
  obtain ⟨c0, c1, c2, c3, hb2⟩ := (PgS.start w k d n body 23).more hb1
  clear hb1 hT1 hT
  go_wp2
  go_ret2
  exact ⟨rfl, hb2.out⟩
set_option maxHeartbeats 800000 in
theorem put_no_b (k d n : Int) (body : List UInt8) (w : World) (hT : Tab w) (hbl : body.length ≤ 140737488351232) (k1 : 0 ≤ k) (k2 : k ≤ 5) (d1 : 0 ≤ d) (d2 : d ≤ 5) (n1 : 0 ≤ n) (n2 : n < 64) (b1 : body.length ≠ 240) :
    Calls Tryd.prog 10 #[.agg #[.int .i64 k, .int .i64 d, .int .i64 n, .string (mk body)]] w fun en w' => en = .returned (.tuple #[.string ByteArray.empty, .bool false]) ∧ Below w.heap.size w w' := by
  have hT1 : Tab (w.alloc (.cells #[.int .i64 k, .int .i64 d, .int .i64 n, .string (mk body)] 23)) := hT.more ((Below.refl _ _).alloc (Nat.le_refl _) _)
  obtain ⟨nm, hnm⟩ : ∃ nm, nm = nameOf k := ⟨_, rfl⟩
  have hnm1 : nm.isEmpty = false := by
    obtain ⟨m, rfl⟩ := Int.eq_ofNat_of_zero_le (show 0 ≤ k by omega)
    rw [hnm, nameOf, if_pos (by omega), Int.toNat_natCast]
    rcases (show m = 0 ∨ m = 1 ∨ m = 2 ∨ m = 3 ∨ m = 4 ∨ m = 5 by omega) with rfl | rfl | rfl | rfl | rfl | rfl <;> rfl
  have hne : ((body.length : Int) != 240) = true := by rw [bne_iff_ne]; omega
  replace b1 := Lib.hid b1
  replace hnm := Lib.hid hnm
  go_enter Tryd.func10, Tryd.ntmps10
  go_wp2_with fail
  refine (name_any k _ hT1).mono ?_
  rintro en w1 ⟨rfl, hb1⟩
  rw [← hnm.out]
  obtain ⟨c0, c1, c2, c3, hb2⟩ := (PgS.start w k d n body 23).more hb1
  clear hb1 hT1 hT
  go_wp2
  go_ret2
  exact ⟨rfl, hb2.out⟩

/-- What Put answers. -/
def putV (p : Pg) : Value := if pgOk p = true then .tuple #[.string (mk (penc p)), .bool true] else .tuple #[.string ByteArray.empty, .bool false]
theorem put_any (k d n : Int) (body : List UInt8) (w : World) (hT : Tab w) (hbl : body.length ≤ 140737488351232) :
    Calls Tryd.prog 10 #[.agg #[.int .i64 k, .int .i64 d, .int .i64 n, .string (mk body)]] w fun en w' => en = .returned (putV ⟨k, d, n, body⟩) ∧ Below w.heap.size w w' := by
  by_cases c : pgOk ⟨k, d, n, body⟩ = true
  · obtain ⟨h1, h2, h3, h4, h5, h6, h7⟩ := pgOk_iff.1 c
    simp only at h1 h2 h3 h4 h5 h6 h7
    rw [putV, if_pos c]
    obtain ⟨k, rfl⟩ := Int.eq_ofNat_of_zero_le h1
    obtain ⟨d, rfl⟩ := Int.eq_ofNat_of_zero_le h3
    obtain ⟨n, rfl⟩ := Int.eq_ofNat_of_zero_le h5
    exact put_yes k d n body w hT (by omega) (by omega) (by omega) h7
  · rw [putV, if_neg c]
    rw [pgOk_iff] at c
    simp only at c
    by_cases k1 : k < 0 ∨ 5 < k
    · exact put_no_k k d n body w hT hbl k1
    by_cases d1 : d < 0
    · exact put_no_d1 k d n body w hT hbl (by omega) (by omega) d1
    by_cases d2 : 5 < d
    · exact put_no_d2 k d n body w hT hbl (by omega) (by omega) (by omega) d2
    by_cases n1 : n < 0
    · exact put_no_n1 k d n body w hT hbl (by omega) (by omega) (by omega) (by omega) n1
    by_cases n2 : 64 ≤ n
    · exact put_no_n2 k d n body w hT hbl (by omega) (by omega) (by omega) (by omega) (by omega) n2
    · exact put_no_b k d n body w hT hbl (by omega) (by omega) (by omega) (by omega) (by omega) (by omega) (fun e => c ⟨by omega, by omega, by omega, by omega, by omega, by omega, e⟩)

set_option maxHeartbeats 800000 in
theorem empty_any (k d : Int) (w : World) :
    Calls Tryd.prog 14 #[.int .i64 k, .int .i64 d] w fun en w' => en = .returned (.agg #[.int .i64 k, .int .i64 d, .int .i64 0, .string (mk (zs 240))]) ∧ Below w.heap.size w w' := by
  go_enter Tryd.func14, Tryd.ntmps14
  go_wp2_with fail
  refine (zeros_any 240 240 _ rfl (by omega)).mono ?_
  rintro en w1 ⟨rfl, hb⟩
  have hB : w1.heap[w.heap.size]? = some (.cells #[.int .i64 0, .int .i64 0, .int .i64 0, .string ⟨#[]⟩] 23 (0, 0)) := (hb.block _ (by simp)).trans (heap_alloc_new w _)
  have c0 : w1.cell? ⟨w.heap.size, 0, none⟩ = some (.int .i64 0) := cell_of hB rfl
  have c1 : w1.cell? ⟨w.heap.size, 1, none⟩ = some (.int .i64 0) := cell_of hB rfl
  have c2 : w1.cell? ⟨w.heap.size, 2, none⟩ = some (.int .i64 0) := cell_of hB rfl
  have c3 : w1.cell? ⟨w.heap.size, 3, none⟩ = some (.string ⟨#[]⟩) := cell_of hB rfl
  have f0 : w1.frozen? ⟨w.heap.size, 0, none⟩ = false := free_of hB
  have f1 : w1.frozen? ⟨w.heap.size, 1, none⟩ = false := free_of hB
  have f2 : w1.frozen? ⟨w.heap.size, 2, none⟩ = false := free_of hB
  have f3 : w1.frozen? ⟨w.heap.size, 3, none⟩ = false := free_of hB
  have hbb := Lib.hid (((Below.refl _ _).alloc (Nat.le_refl _) _).trans (hb.mono (by simp)))
  clear hb hB
  go_wp2
  refine bodyPost_ret (v := .agg #[.int .i64 k, .int .i64 d, .int .i64 0, .string (mk (zs 240))]) (by simp [results, Tryd.results14, go_sem, c0, c1, c2, c3]) rfl ⟨rfl, ?_⟩
  exact ((((hbb.out.setCell (Nat.le_refl _) _).setCell (Nat.le_refl _) _).setCell (Nat.le_refl _) _).setCell (Nat.le_refl _) _)
end Go.Proofs.YtcmbofoddfhnjaaDoor
