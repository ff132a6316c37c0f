/- Get of package page. No condition but the table of spaces. -/
import Derived.Test.YtcmbofoddfhnjaaDoorPNo
import Derived.Test.YtcmbofoddfhnjaaDoorFSl
namespace Go.Proofs.YtcmbofoddfhnjaaDoor
open Go.RowKit
attribute [local go_sem] mk_size

theorem cells_two (w : World) (o1 o2 : Obj) : ((w.alloc o1).alloc o2).drew.heap[w.heap.size + 1]? = some o2 := by
  have := heap_alloc_new (w.alloc o1) o2
  rw [show (w.alloc o1).heap.size = w.heap.size + 1 by simp] at this
  exact this
theorem cells_one (w : World) (o1 o2 : Obj) : ((w.alloc o1).alloc o2).drew.heap[w.heap.size]? = some o1 := by
  have h := Below.heap_alloc (w.alloc o1) o2 w.heap.size (by simp)
  exact h.trans (heap_alloc_new w o1)
theorem below_two {w w' : World} {o1 o2 : Obj} (hb : Below ((w.alloc o1).alloc o2).drew.heap.size ((w.alloc o1).alloc o2).drew w') : Below w.heap.size w w' :=
  (((Below.refl _ _).alloc (Nat.le_refl _) o1).alloc (by simp) o2).drew.trans (hb.mono (by simp; omega))
set_option maxRecDepth 100000 in
set_option maxHeartbeats 1600000 in
theorem get_z (b : List UInt8) (w : World) (hT : Tab w) (h : b.length = 256) (hz0 : b = zs 256) :
    Calls Tryd.prog 12 #[.string (mk b)] w fun en w' => en = .returned (.tuple #[.agg #[.int .i64 (b.getD 2 0).toNat, .int .i64 (b.getD 3 0).toNat, .int .i64 ((b.getD 4 0).toNat * 256 + (b.getD 5 0).toNat : Int), .string (mk (b.drop 16))], .bool true]) ∧ Below w.heap.size w w' := by
  have h64 : 256 ≤ b.length := by omega
  have h64' : b.length ≤ 256 := by omega
  obtain ⟨x2, hx2⟩ : ∃ x, x = b.getD 2 0 := ⟨_, rfl⟩
  obtain ⟨x3, hx3⟩ : ∃ x, x = b.getD 3 0 := ⟨_, rfl⟩
  obtain ⟨x4, hx4⟩ : ∃ x, x = b.getD 4 0 := ⟨_, rfl⟩
  obtain ⟨x5, hx5⟩ : ∃ x, x = b.getD 5 0 := ⟨_, rfl⟩
  obtain ⟨nx, hnx⟩ : ∃ nx : Int, nx = (x4.toNat * 256 + x5.toNat : Int) := ⟨_, rfl⟩
  have g2 : ∀ h : 2 < (mk b).size, (mk b)[2] = x2 := fun h => by rw [mk_get, hx2]
  have g3 : ∀ h : 3 < (mk b).size, (mk b)[3] = x3 := fun h => by rw [mk_get, hx3]
  have g4 : ∀ h : 4 < (mk b).size, (mk b)[4] = x4 := fun h => by rw [mk_get, hx4]
  have g5 : ∀ h : 5 < (mk b).size, (mk b)[5] = x5 := fun h => by rw [mk_get, hx5]
  have hz : (b == zs 256) = true := by rw [hz0]; simp
  replace hz0 := Lib.hid hz0
  have u2 := x2.toNat_lt
  have u3 := x3.toNat_lt
  have u4 := x4.toNat_lt
  have u5 := x5.toNat_lt
  have hor : bits .or .i64 ((x4.toNat : Int) * 256) (x5.toNat : Int) = nx := by rw [join8 _ _ (by omega) (by omega) (by omega) (by omega), hnx]
  have hw2 : IntKind.i64.wrap (x2.toNat : Int) = x2.toNat := IntWalk.i64_in _ (by omega)
  have hw3 : IntKind.i64.wrap (x3.toNat : Int) = x3.toNat := IntWalk.i64_in _ (by omega)
  have hw4 : IntKind.i64.wrap (x4.toNat : Int) = x4.toNat := IntWalk.i64_in _ (by omega)
  have hw5 : IntKind.i64.wrap (x5.toNat : Int) = x5.toNat := IntWalk.i64_in _ (by omega)
  have hw6 : IntKind.i64.wrap ((x4.toNat : Int) * 256) = x4.toNat * 256 := IntWalk.i64_in _ (by omega)
  replace hnx := Lib.hid hnx
  replace hx2 := Lib.hid hx2
  replace hx3 := Lib.hid hx3
  replace hx4 := Lib.hid hx4
  replace hx5 := Lib.hid hx5
  have hne : ((b.length : Int) != 256) = false := by rw [bne_eq_false_iff_eq]; omega
  have hsl := sl_from b 16 16 rfl (by omega)
  have i2 : (2 : Int) < b.length := by omega
  have i3 : (3 : Int) < b.length := by omega
  have i4 : (4 : Int) < b.length := by omega
  have i5 : (5 : Int) < b.length := by omega
  replace h := Lib.hid h
  go_enter Tryd.func12, Tryd.ntmps12
  go_wp2
  refine wp_region_held_drew (S := fun _ => Hid True) (by kernel_rfl) (Lib.hid trivial) (fun hHeld => ?_)
  refine wpAnyH_take (i := 0) (v := ?_) rfl (by kernel_rfl) (by kernel_rfl) (by kernel_rfl) (fun _ _ _ h => h) (Or.inl ⟨by rfl, ?_⟩) (by assumption) ?_
  rotate_left
  · (intro wS hSw; (try dsimp only at hSw); go_simp; (try with_reducible rfl))
  try simp only [Act.put, List.getElem_toArray, List.getElem_cons_succ, List.getElem_cons_zero, List.setIfInBounds_toArray, List.set_cons_zero, List.set_cons_succ]
  refine wpAnyH_take (i := 1) (v := ?_) rfl (by kernel_rfl) (by kernel_rfl) (by kernel_rfl) (fun _ _ _ h => h) (Or.inl ⟨by rfl, ?_⟩) (by assumption) ?_
  rotate_left
  · (intro wS hSw; (try dsimp only at hSw); go_simp; (try with_reducible rfl))
  try simp only [Act.put, List.getElem_toArray, List.getElem_cons_succ, List.getElem_cons_zero, List.setIfInBounds_toArray, List.set_cons_zero, List.set_cons_succ]
  refine wpAnyH_take (i := 2) (v := ?_) rfl (by kernel_rfl) (by kernel_rfl) (by kernel_rfl) (fun _ _ _ h => h) (Or.inl ⟨by rfl, ?_⟩) (by assumption) ?_
  rotate_left
  · (intro wS hSw; (try dsimp only at hSw); go_simp; (try with_reducible rfl))
  try simp only [Act.put, List.getElem_toArray, List.getElem_cons_succ, List.getElem_cons_zero, List.setIfInBounds_toArray, List.set_cons_zero, List.set_cons_succ]
  refine wpAnyH_take (i := 3) (v := ?_) rfl (by kernel_rfl) (by kernel_rfl) (by kernel_rfl) (fun _ _ _ h => h) (Or.inl ⟨by rfl, ?_⟩) (by assumption) ?_
  rotate_left
  · (intro wS hSw; (try dsimp only at hSw); go_simp; (try with_reducible rfl))
  try simp only [Act.put, List.getElem_toArray, List.getElem_cons_succ, List.getElem_cons_zero, List.setIfInBounds_toArray, List.set_cons_zero, List.set_cons_succ]
  refine wpAnyH_take (i := 4) (v := ?_) rfl (by kernel_rfl) (by kernel_rfl) (by kernel_rfl) (fun _ _ _ h => h) (Or.inl ⟨by rfl, ?_⟩) (by assumption) ?_
  rotate_left
  · (intro wS hSw; (try dsimp only at hSw); go_simp; (try with_reducible rfl))
  try simp only [Act.put, List.getElem_toArray, List.getElem_cons_succ, List.getElem_cons_zero, List.setIfInBounds_toArray, List.set_cons_zero, List.set_cons_succ]
  refine wpAnyH_take (i := 5) (v := ?_) rfl (by kernel_rfl) (by kernel_rfl) (by kernel_rfl) (fun _ _ _ h => h) (Or.inl ⟨by rfl, ?_⟩) (by assumption) ?_
  rotate_left
  · (intro wS hSw; (try dsimp only at hSw); go_simp; (try with_reducible rfl))
  try simp only [Act.put, List.getElem_toArray, List.getElem_cons_succ, List.getElem_cons_zero, List.setIfInBounds_toArray, List.set_cons_zero, List.set_cons_succ]
  refine wpAnyH_take (i := 6) (v := ?_) rfl (by kernel_rfl) (by kernel_rfl) (by kernel_rfl) (fun _ _ _ h => h) (Or.inl ⟨by rfl, ?_⟩) (by assumption) ?_
  rotate_left
  · (intro wS hSw; (try dsimp only at hSw); go_simp; (try with_reducible rfl))
  try simp only [Act.put, List.getElem_toArray, List.getElem_cons_succ, List.getElem_cons_zero, List.setIfInBounds_toArray, List.set_cons_zero, List.set_cons_succ]
  refine wpAnyH_take (i := 7) (v := ?_) rfl (by kernel_rfl) (by kernel_rfl) (by kernel_rfl) (fun _ _ _ h => h) (Or.inl ⟨by rfl, ?_⟩) (by assumption) ?_
  rotate_left
  · (intro wS hSw; (try dsimp only at hSw); go_simp; (try with_reducible rfl))
  try simp only [Act.put, List.getElem_toArray, List.getElem_cons_succ, List.getElem_cons_zero, List.setIfInBounds_toArray, List.set_cons_zero, List.set_cons_succ]
  refine wpAnyH_take (i := 8) (v := ?_) rfl (by kernel_rfl) (by kernel_rfl) (by kernel_rfl) (fun _ _ _ h => h) (Or.inl ⟨by rfl, ?_⟩) (by assumption) ?_
  rotate_left
  · (intro wS hSw; (try dsimp only at hSw); go_simp; (try with_reducible rfl))
  try simp only [Act.put, List.getElem_toArray, List.getElem_cons_succ, List.getElem_cons_zero, List.setIfInBounds_toArray, List.set_cons_zero, List.set_cons_succ]
  refine wpAnyH_take (i := 9) (v := ?_) rfl (by kernel_rfl) (by kernel_rfl) (by kernel_rfl) (fun _ _ _ h => h) (Or.inl ⟨by rfl, ?_⟩) (by assumption) ?_
  rotate_left
  · (intro wS hSw; (try dsimp only at hSw); go_simp; (try with_reducible rfl))
  try simp only [Act.put, List.getElem_toArray, List.getElem_cons_succ, List.getElem_cons_zero, List.setIfInBounds_toArray, List.set_cons_zero, List.set_cons_succ]
  refine wpAnyH_take (i := 10) (v := ?_) rfl (by kernel_rfl) (by kernel_rfl) (by kernel_rfl) (fun _ _ _ h => h) (Or.inl ⟨by rfl, ?_⟩) (by assumption) ?_
  rotate_left
  · (intro wS hSw; (try dsimp only at hSw); go_simp; (try with_reducible rfl))
  try simp only [Act.put, List.getElem_toArray, List.getElem_cons_succ, List.getElem_cons_zero, List.setIfInBounds_toArray, List.set_cons_zero, List.set_cons_succ]
  refine wpAnyH_take (i := 11) (v := ?_) rfl (by kernel_rfl) (by kernel_rfl) (by kernel_rfl) (fun _ _ _ h => h) (Or.inl ⟨by rfl, ?_⟩) (by assumption) ?_
  rotate_left
  · (intro wS hSw; (try dsimp only at hSw); go_simp; (try with_reducible rfl))
  try simp only [Act.put, List.getElem_toArray, List.getElem_cons_succ, List.getElem_cons_zero, List.setIfInBounds_toArray, List.set_cons_zero, List.set_cons_succ]
  refine wpAnyH_take (i := 12) (v := ?_) rfl (by kernel_rfl) (by kernel_rfl) (by kernel_rfl) (fun _ _ _ h => h) (Or.inl ⟨by rfl, ?_⟩) (by assumption) ?_
  rotate_left
  · (intro wS hSw; (try dsimp only at hSw); go_simp; (try with_reducible rfl))
  try simp only [Act.put, List.getElem_toArray, List.getElem_cons_succ, List.getElem_cons_zero, List.setIfInBounds_toArray, List.set_cons_zero, List.set_cons_succ]
  refine wpAnyH_take (i := 13) (v := ?_) rfl (by kernel_rfl) (by kernel_rfl) (by kernel_rfl) (fun _ _ _ h => h) (Or.inl ⟨by rfl, ?_⟩) (by assumption) ?_
  rotate_left
  · (intro wS hSw; (try dsimp only at hSw); go_simp; (try with_reducible rfl))
  try simp only [Act.put, List.getElem_toArray, List.getElem_cons_succ, List.getElem_cons_zero, List.setIfInBounds_toArray, List.set_cons_zero, List.set_cons_succ]
  refine wpAnyH_take (i := 14) (v := ?_) rfl (by kernel_rfl) (by kernel_rfl) (by kernel_rfl) (fun _ _ _ h => h) (Or.inl ⟨by rfl, ?_⟩) (by assumption) ?_
  rotate_left
  · (intro wS hSw; (try dsimp only at hSw); go_simp; (try with_reducible rfl))
  try simp only [Act.put, List.getElem_toArray, List.getElem_cons_succ, List.getElem_cons_zero, List.setIfInBounds_toArray, List.set_cons_zero, List.set_cons_succ]
  refine wpAnyH_take (i := 15) (v := ?_) rfl (by kernel_rfl) (by kernel_rfl) (by kernel_rfl) (fun _ _ _ h => h) (Or.inl ⟨by rfl, ?_⟩) (by assumption) ?_
  rotate_left
  · (intro wS hSw; (try dsimp only at hSw); go_simp; (try with_reducible rfl))
  try simp only [Act.put, List.getElem_toArray, List.getElem_cons_succ, List.getElem_cons_zero, List.setIfInBounds_toArray, List.set_cons_zero, List.set_cons_succ]
  refine wpAnyH_take (i := 16) (v := ?_) rfl (by kernel_rfl) (by kernel_rfl) (by kernel_rfl) (fun _ _ _ h => h) (Or.inl ⟨by rfl, ?_⟩) (by assumption) ?_
  rotate_left
  · (intro wS hSw; (try dsimp only at hSw); go_simp; (try with_reducible rfl))
  try simp only [Act.put, List.getElem_toArray, List.getElem_cons_succ, List.getElem_cons_zero, List.setIfInBounds_toArray, List.set_cons_zero, List.set_cons_succ]
  refine wpAnyH_ready (rs := [17]) (by kernel_rfl) (by simp) ?_
  refine AllReadyH.cons rfl (fun K hK => ?_) AllReadyH.nil
  · simp only [List.getElem_toArray, List.getElem_cons_succ, List.getElem_cons_zero]
    go_simp
    refine hK.out _ _ (Lib.hid trivial) (fun hHeld => ?_)
    clear hK K
    try simp only [Act.put, List.getElem_toArray, List.getElem_cons_succ, List.getElem_cons_zero, List.setIfInBounds_toArray, List.set_cons_zero, List.set_cons_succ]
    refine wpAnyH_ready (rs := [18]) (by kernel_rfl) (by simp) ?_
    refine AllReadyH.cons rfl (fun K hK => ?_) AllReadyH.nil
    · simp only [List.getElem_toArray, List.getElem_cons_succ, List.getElem_cons_zero]
      go_simp
      refine hK.out _ _ (Lib.hid trivial) (fun hHeld => ?_)
      clear hK K
      try simp only [Act.put, List.getElem_toArray, List.getElem_cons_succ, List.getElem_cons_zero, List.setIfInBounds_toArray, List.set_cons_zero, List.set_cons_succ]
      refine wpAnyH_done (by kernel_rfl) ?_ _
      go_wp2_with fail
      refine (zeros_any 256 256 _ rfl (by omega)).mono ?_
      rintro en wq ⟨rfl, hb⟩
      have hb1 : wq.heap[w.heap.size + 1]? = some (.cells #[.int .i64 x2.toNat, .int .i64 x3.toNat, .int .i64 nx, .string (mk (b.drop 16))] 23 (0, 0)) := (hb.block _ (by simp)).trans (cells_two _ _ _)
      have hb0 : wq.heap[w.heap.size]? = some (.cells #[.int .i64 0, .int .i64 0, .int .i64 0, .string ⟨#[]⟩] 23 (0, 0)) := (hb.block _ (by simp; omega)).trans (cells_one _ _ _)
      have hT2 : Tab wq := (hT.more (((Below.refl w.heap.size w).alloc (Nat.le_refl _) _).alloc (by simp) _).drew).more hb
      have c10 : wq.cell? ⟨w.heap.size + 1, 0, none⟩ = some (.int .i64 x2.toNat) := cell_of hb1 rfl
      have c11 : wq.cell? ⟨w.heap.size + 1, 1, none⟩ = some (.int .i64 x3.toNat) := cell_of hb1 rfl
      have c12 : wq.cell? ⟨w.heap.size + 1, 2, none⟩ = some (.int .i64 nx) := cell_of hb1 rfl
      have c13 : wq.cell? ⟨w.heap.size + 1, 3, none⟩ = some (.string (mk (b.drop 16))) := cell_of hb1 rfl
      have c00 : wq.cell? ⟨w.heap.size, 0, none⟩ = some (.int .i64 0) := cell_of hb0 rfl
      have c01 : wq.cell? ⟨w.heap.size, 1, none⟩ = some (.int .i64 0) := cell_of hb0 rfl
      have c02 : wq.cell? ⟨w.heap.size, 2, none⟩ = some (.int .i64 0) := cell_of hb0 rfl
      have c03 : wq.cell? ⟨w.heap.size, 3, none⟩ = some (.string ⟨#[]⟩) := cell_of hb0 rfl
      have f00 := free_of (i := 0) hb0
      have f01 := free_of (i := 1) hb0
      have f02 := free_of (i := 2) hb0
      have f03 := free_of (i := 3) hb0
      have hbb := Lib.hid (below_two hb)
      replace hb0 := Lib.hid hb0
      replace hb1 := Lib.hid hb1
      clear hb hT
      go_wp2
      refine bodyPost_ret (v := .tuple #[.agg #[.int .i64 x2.toNat, .int .i64 x3.toNat, .int .i64 nx, .string (mk (b.drop 16))], .bool true]) (by simp [results, Tryd.results12, go_sem, c00, c01, c02, c03]) rfl ⟨by rw [hnx.out, hx2.out, hx3.out, hx4.out, hx5.out], ?_⟩
      exact ((((hbb.out.setCell (Nat.le_refl _) _).setCell (Nat.le_refl _) _).setCell (Nat.le_refl _) _).setCell (Nat.le_refl _) _)
set_option maxRecDepth 100000 in
set_option maxHeartbeats 1600000 in
theorem get_yes (b : List UInt8) (w : World) (hT : Tab w) (h : b.length = 256) (hz0 : b ≠ zs 256) (hok : pgOk (pgOf b) = true) (heq : penc (pgOf b) = b) :
    Calls Tryd.prog 12 #[.string (mk b)] w fun en w' => en = .returned (.tuple #[.agg #[.int .i64 (b.getD 2 0).toNat, .int .i64 (b.getD 3 0).toNat, .int .i64 ((b.getD 4 0).toNat * 256 + (b.getD 5 0).toNat : Int), .string (mk (b.drop 16))], .bool true]) ∧ Below w.heap.size w w' := by
  have h64 : 256 ≤ b.length := by omega
  have h64' : b.length ≤ 256 := by omega
  obtain ⟨x2, hx2⟩ : ∃ x, x = b.getD 2 0 := ⟨_, rfl⟩
  obtain ⟨x3, hx3⟩ : ∃ x, x = b.getD 3 0 := ⟨_, rfl⟩
  obtain ⟨x4, hx4⟩ : ∃ x, x = b.getD 4 0 := ⟨_, rfl⟩
  obtain ⟨x5, hx5⟩ : ∃ x, x = b.getD 5 0 := ⟨_, rfl⟩
  obtain ⟨nx, hnx⟩ : ∃ nx : Int, nx = (x4.toNat * 256 + x5.toNat : Int) := ⟨_, rfl⟩
  have g2 : ∀ h : 2 < (mk b).size, (mk b)[2] = x2 := fun h => by rw [mk_get, hx2]
  have g3 : ∀ h : 3 < (mk b).size, (mk b)[3] = x3 := fun h => by rw [mk_get, hx3]
  have g4 : ∀ h : 4 < (mk b).size, (mk b)[4] = x4 := fun h => by rw [mk_get, hx4]
  have g5 : ∀ h : 5 < (mk b).size, (mk b)[5] = x5 := fun h => by rw [mk_get, hx5]
  have hz : (b == zs 256) = false := beq_eq_false_iff_ne.2 hz0
  replace hz0 := Lib.hid hz0
  have hok' : pgOk ⟨x2.toNat, x3.toNat, nx, b.drop 16⟩ = true := by rw [hnx, hx2, hx3, hx4, hx5]; exact hok
  replace hok := Lib.hid hok'
  clear hok'
  have hee : (penc ⟨x2.toNat, x3.toNat, nx, b.drop 16⟩ == b) = true := by rw [hnx, hx2, hx3, hx4, hx5]; exact beq_iff_eq.2 heq
  obtain ⟨pe, hpe⟩ : ∃ pe, pe = penc ⟨x2.toNat, x3.toNat, nx, b.drop 16⟩ := ⟨_, rfl⟩
  rw [← hpe] at hee
  replace hpe := Lib.hid hpe
  have u2 := x2.toNat_lt
  have u3 := x3.toNat_lt
  have u4 := x4.toNat_lt
  have u5 := x5.toNat_lt
  have hor : bits .or .i64 ((x4.toNat : Int) * 256) (x5.toNat : Int) = nx := by rw [join8 _ _ (by omega) (by omega) (by omega) (by omega), hnx]
  have hw2 : IntKind.i64.wrap (x2.toNat : Int) = x2.toNat := IntWalk.i64_in _ (by omega)
  have hw3 : IntKind.i64.wrap (x3.toNat : Int) = x3.toNat := IntWalk.i64_in _ (by omega)
  have hw4 : IntKind.i64.wrap (x4.toNat : Int) = x4.toNat := IntWalk.i64_in _ (by omega)
  have hw5 : IntKind.i64.wrap (x5.toNat : Int) = x5.toNat := IntWalk.i64_in _ (by omega)
  have hw6 : IntKind.i64.wrap ((x4.toNat : Int) * 256) = x4.toNat * 256 := IntWalk.i64_in _ (by omega)
  replace hnx := Lib.hid hnx
  replace hx2 := Lib.hid hx2
  replace hx3 := Lib.hid hx3
  replace hx4 := Lib.hid hx4
  replace hx5 := Lib.hid hx5
  have hne : ((b.length : Int) != 256) = false := by rw [bne_eq_false_iff_eq]; omega
  have hsl := sl_from b 16 16 rfl (by omega)
  have i2 : (2 : Int) < b.length := by omega
  have i3 : (3 : Int) < b.length := by omega
  have i4 : (4 : Int) < b.length := by omega
  have i5 : (5 : Int) < b.length := by omega
  replace h := Lib.hid h
  go_enter Tryd.func12, Tryd.ntmps12
  go_wp2
  refine wp_region_held_drew (S := fun _ => Hid True) (by kernel_rfl) (Lib.hid trivial) (fun hHeld => ?_)
  refine wpAnyH_take (i := 0) (v := ?_) rfl (by kernel_rfl) (by kernel_rfl) (by kernel_rfl) (fun _ _ _ h => h) (Or.inl ⟨by rfl, ?_⟩) (by assumption) ?_
  rotate_left
  · (intro wS hSw; (try dsimp only at hSw); go_simp; (try with_reducible rfl))
  try simp only [Act.put, List.getElem_toArray, List.getElem_cons_succ, List.getElem_cons_zero, List.setIfInBounds_toArray, List.set_cons_zero, List.set_cons_succ]
  refine wpAnyH_take (i := 1) (v := ?_) rfl (by kernel_rfl) (by kernel_rfl) (by kernel_rfl) (fun _ _ _ h => h) (Or.inl ⟨by rfl, ?_⟩) (by assumption) ?_
  rotate_left
  · (intro wS hSw; (try dsimp only at hSw); go_simp; (try with_reducible rfl))
  try simp only [Act.put, List.getElem_toArray, List.getElem_cons_succ, List.getElem_cons_zero, List.setIfInBounds_toArray, List.set_cons_zero, List.set_cons_succ]
  refine wpAnyH_take (i := 2) (v := ?_) rfl (by kernel_rfl) (by kernel_rfl) (by kernel_rfl) (fun _ _ _ h => h) (Or.inl ⟨by rfl, ?_⟩) (by assumption) ?_
  rotate_left
  · (intro wS hSw; (try dsimp only at hSw); go_simp; (try with_reducible rfl))
  try simp only [Act.put, List.getElem_toArray, List.getElem_cons_succ, List.getElem_cons_zero, List.setIfInBounds_toArray, List.set_cons_zero, List.set_cons_succ]
  refine wpAnyH_take (i := 3) (v := ?_) rfl (by kernel_rfl) (by kernel_rfl) (by kernel_rfl) (fun _ _ _ h => h) (Or.inl ⟨by rfl, ?_⟩) (by assumption) ?_
  rotate_left
  · (intro wS hSw; (try dsimp only at hSw); go_simp; (try with_reducible rfl))
  try simp only [Act.put, List.getElem_toArray, List.getElem_cons_succ, List.getElem_cons_zero, List.setIfInBounds_toArray, List.set_cons_zero, List.set_cons_succ]
  refine wpAnyH_take (i := 4) (v := ?_) rfl (by kernel_rfl) (by kernel_rfl) (by kernel_rfl) (fun _ _ _ h => h) (Or.inl ⟨by rfl, ?_⟩) (by assumption) ?_
  rotate_left
  · (intro wS hSw; (try dsimp only at hSw); go_simp; (try with_reducible rfl))
  try simp only [Act.put, List.getElem_toArray, List.getElem_cons_succ, List.getElem_cons_zero, List.setIfInBounds_toArray, List.set_cons_zero, List.set_cons_succ]
  refine wpAnyH_take (i := 5) (v := ?_) rfl (by kernel_rfl) (by kernel_rfl) (by kernel_rfl) (fun _ _ _ h => h) (Or.inl ⟨by rfl, ?_⟩) (by assumption) ?_
  rotate_left
  · (intro wS hSw; (try dsimp only at hSw); go_simp; (try with_reducible rfl))
  try simp only [Act.put, List.getElem_toArray, List.getElem_cons_succ, List.getElem_cons_zero, List.setIfInBounds_toArray, List.set_cons_zero, List.set_cons_succ]
  refine wpAnyH_take (i := 6) (v := ?_) rfl (by kernel_rfl) (by kernel_rfl) (by kernel_rfl) (fun _ _ _ h => h) (Or.inl ⟨by rfl, ?_⟩) (by assumption) ?_
  rotate_left
  · (intro wS hSw; (try dsimp only at hSw); go_simp; (try with_reducible rfl))
  try simp only [Act.put, List.getElem_toArray, List.getElem_cons_succ, List.getElem_cons_zero, List.setIfInBounds_toArray, List.set_cons_zero, List.set_cons_succ]
  refine wpAnyH_take (i := 7) (v := ?_) rfl (by kernel_rfl) (by kernel_rfl) (by kernel_rfl) (fun _ _ _ h => h) (Or.inl ⟨by rfl, ?_⟩) (by assumption) ?_
  rotate_left
  · (intro wS hSw; (try dsimp only at hSw); go_simp; (try with_reducible rfl))
  try simp only [Act.put, List.getElem_toArray, List.getElem_cons_succ, List.getElem_cons_zero, List.setIfInBounds_toArray, List.set_cons_zero, List.set_cons_succ]
  refine wpAnyH_take (i := 8) (v := ?_) rfl (by kernel_rfl) (by kernel_rfl) (by kernel_rfl) (fun _ _ _ h => h) (Or.inl ⟨by rfl, ?_⟩) (by assumption) ?_
  rotate_left
  · (intro wS hSw; (try dsimp only at hSw); go_simp; (try with_reducible rfl))
  try simp only [Act.put, List.getElem_toArray, List.getElem_cons_succ, List.getElem_cons_zero, List.setIfInBounds_toArray, List.set_cons_zero, List.set_cons_succ]
  refine wpAnyH_take (i := 9) (v := ?_) rfl (by kernel_rfl) (by kernel_rfl) (by kernel_rfl) (fun _ _ _ h => h) (Or.inl ⟨by rfl, ?_⟩) (by assumption) ?_
  rotate_left
  · (intro wS hSw; (try dsimp only at hSw); go_simp; (try with_reducible rfl))
  try simp only [Act.put, List.getElem_toArray, List.getElem_cons_succ, List.getElem_cons_zero, List.setIfInBounds_toArray, List.set_cons_zero, List.set_cons_succ]
  refine wpAnyH_take (i := 10) (v := ?_) rfl (by kernel_rfl) (by kernel_rfl) (by kernel_rfl) (fun _ _ _ h => h) (Or.inl ⟨by rfl, ?_⟩) (by assumption) ?_
  rotate_left
  · (intro wS hSw; (try dsimp only at hSw); go_simp; (try with_reducible rfl))
  try simp only [Act.put, List.getElem_toArray, List.getElem_cons_succ, List.getElem_cons_zero, List.setIfInBounds_toArray, List.set_cons_zero, List.set_cons_succ]
  refine wpAnyH_take (i := 11) (v := ?_) rfl (by kernel_rfl) (by kernel_rfl) (by kernel_rfl) (fun _ _ _ h => h) (Or.inl ⟨by rfl, ?_⟩) (by assumption) ?_
  rotate_left
  · (intro wS hSw; (try dsimp only at hSw); go_simp; (try with_reducible rfl))
  try simp only [Act.put, List.getElem_toArray, List.getElem_cons_succ, List.getElem_cons_zero, List.setIfInBounds_toArray, List.set_cons_zero, List.set_cons_succ]
  refine wpAnyH_take (i := 12) (v := ?_) rfl (by kernel_rfl) (by kernel_rfl) (by kernel_rfl) (fun _ _ _ h => h) (Or.inl ⟨by rfl, ?_⟩) (by assumption) ?_
  rotate_left
  · (intro wS hSw; (try dsimp only at hSw); go_simp; (try with_reducible rfl))
  try simp only [Act.put, List.getElem_toArray, List.getElem_cons_succ, List.getElem_cons_zero, List.setIfInBounds_toArray, List.set_cons_zero, List.set_cons_succ]
  refine wpAnyH_take (i := 13) (v := ?_) rfl (by kernel_rfl) (by kernel_rfl) (by kernel_rfl) (fun _ _ _ h => h) (Or.inl ⟨by rfl, ?_⟩) (by assumption) ?_
  rotate_left
  · (intro wS hSw; (try dsimp only at hSw); go_simp; (try with_reducible rfl))
  try simp only [Act.put, List.getElem_toArray, List.getElem_cons_succ, List.getElem_cons_zero, List.setIfInBounds_toArray, List.set_cons_zero, List.set_cons_succ]
  refine wpAnyH_take (i := 14) (v := ?_) rfl (by kernel_rfl) (by kernel_rfl) (by kernel_rfl) (fun _ _ _ h => h) (Or.inl ⟨by rfl, ?_⟩) (by assumption) ?_
  rotate_left
  · (intro wS hSw; (try dsimp only at hSw); go_simp; (try with_reducible rfl))
  try simp only [Act.put, List.getElem_toArray, List.getElem_cons_succ, List.getElem_cons_zero, List.setIfInBounds_toArray, List.set_cons_zero, List.set_cons_succ]
  refine wpAnyH_take (i := 15) (v := ?_) rfl (by kernel_rfl) (by kernel_rfl) (by kernel_rfl) (fun _ _ _ h => h) (Or.inl ⟨by rfl, ?_⟩) (by assumption) ?_
  rotate_left
  · (intro wS hSw; (try dsimp only at hSw); go_simp; (try with_reducible rfl))
  try simp only [Act.put, List.getElem_toArray, List.getElem_cons_succ, List.getElem_cons_zero, List.setIfInBounds_toArray, List.set_cons_zero, List.set_cons_succ]
  refine wpAnyH_take (i := 16) (v := ?_) rfl (by kernel_rfl) (by kernel_rfl) (by kernel_rfl) (fun _ _ _ h => h) (Or.inl ⟨by rfl, ?_⟩) (by assumption) ?_
  rotate_left
  · (intro wS hSw; (try dsimp only at hSw); go_simp; (try with_reducible rfl))
  try simp only [Act.put, List.getElem_toArray, List.getElem_cons_succ, List.getElem_cons_zero, List.setIfInBounds_toArray, List.set_cons_zero, List.set_cons_succ]
  refine wpAnyH_ready (rs := [17]) (by kernel_rfl) (by simp) ?_
  refine AllReadyH.cons rfl (fun K hK => ?_) AllReadyH.nil
  · simp only [List.getElem_toArray, List.getElem_cons_succ, List.getElem_cons_zero]
    go_simp
    refine hK.out _ _ (Lib.hid trivial) (fun hHeld => ?_)
    clear hK K
    try simp only [Act.put, List.getElem_toArray, List.getElem_cons_succ, List.getElem_cons_zero, List.setIfInBounds_toArray, List.set_cons_zero, List.set_cons_succ]
    refine wpAnyH_ready (rs := [18]) (by kernel_rfl) (by simp) ?_
    refine AllReadyH.cons rfl (fun K hK => ?_) AllReadyH.nil
    · simp only [List.getElem_toArray, List.getElem_cons_succ, List.getElem_cons_zero]
      go_simp
      refine hK.out _ _ (Lib.hid trivial) (fun hHeld => ?_)
      clear hK K
      try simp only [Act.put, List.getElem_toArray, List.getElem_cons_succ, List.getElem_cons_zero, List.setIfInBounds_toArray, List.set_cons_zero, List.set_cons_succ]
      refine wpAnyH_done (by kernel_rfl) ?_ _
      go_wp2_with fail
      refine (zeros_any 256 256 _ rfl (by omega)).mono ?_
      rintro en wq ⟨rfl, hb⟩
      have hb1 : wq.heap[w.heap.size + 1]? = some (.cells #[.int .i64 x2.toNat, .int .i64 x3.toNat, .int .i64 nx, .string (mk (b.drop 16))] 23 (0, 0)) := (hb.block _ (by simp)).trans (cells_two _ _ _)
      have hb0 : wq.heap[w.heap.size]? = some (.cells #[.int .i64 0, .int .i64 0, .int .i64 0, .string ⟨#[]⟩] 23 (0, 0)) := (hb.block _ (by simp; omega)).trans (cells_one _ _ _)
      have hT2 : Tab wq := (hT.more (((Below.refl w.heap.size w).alloc (Nat.le_refl _) _).alloc (by simp) _).drew).more hb
      have c10 : wq.cell? ⟨w.heap.size + 1, 0, none⟩ = some (.int .i64 x2.toNat) := cell_of hb1 rfl
      have c11 : wq.cell? ⟨w.heap.size + 1, 1, none⟩ = some (.int .i64 x3.toNat) := cell_of hb1 rfl
      have c12 : wq.cell? ⟨w.heap.size + 1, 2, none⟩ = some (.int .i64 nx) := cell_of hb1 rfl
      have c13 : wq.cell? ⟨w.heap.size + 1, 3, none⟩ = some (.string (mk (b.drop 16))) := cell_of hb1 rfl
      have c00 : wq.cell? ⟨w.heap.size, 0, none⟩ = some (.int .i64 0) := cell_of hb0 rfl
      have c01 : wq.cell? ⟨w.heap.size, 1, none⟩ = some (.int .i64 0) := cell_of hb0 rfl
      have c02 : wq.cell? ⟨w.heap.size, 2, none⟩ = some (.int .i64 0) := cell_of hb0 rfl
      have c03 : wq.cell? ⟨w.heap.size, 3, none⟩ = some (.string ⟨#[]⟩) := cell_of hb0 rfl
      have f00 := free_of (i := 0) hb0
      have f01 := free_of (i := 1) hb0
      have f02 := free_of (i := 2) hb0
      have f03 := free_of (i := 3) hb0
      have hbb := Lib.hid (below_two hb)
      replace hb0 := Lib.hid hb0
      replace hb1 := Lib.hid hb1
      clear hb hT
      clear c00 c01 c02 c03 f00 f01 f02 f03
      go_wp2_with fail
      refine (put_any _ _ _ (b.drop 16) _ hT2 (by simp; omega)).mono ?_
      rintro en wr ⟨rfl, hb⟩
      rw [show putV ⟨x2.toNat, x3.toNat, nx, b.drop 16⟩ = .tuple #[.string (mk pe), .bool true] from by rw [putV, if_pos hok.out, hpe.out]]
      have d10 := same_cell hb c10
      have d11 := same_cell hb c11
      have d12 := same_cell hb c12
      have d13 := same_cell hb c13
      have hd0 := (hb.block _ (lt_of hb0.out)).trans hb0.out
      have d00 : wr.cell? ⟨w.heap.size, 0, none⟩ = some (.int .i64 0) := cell_of hd0 rfl
      have d01 : wr.cell? ⟨w.heap.size, 1, none⟩ = some (.int .i64 0) := cell_of hd0 rfl
      have d02 : wr.cell? ⟨w.heap.size, 2, none⟩ = some (.int .i64 0) := cell_of hd0 rfl
      have d03 : wr.cell? ⟨w.heap.size, 3, none⟩ = some (.string ⟨#[]⟩) := cell_of hd0 rfl
      have e00 := free_of (i := 0) hd0
      have e01 := free_of (i := 1) hd0
      have e02 := free_of (i := 2) hd0
      have e03 := free_of (i := 3) hd0
      replace hbb := Lib.hid (hbb.out.trans (hb.mono hbb.out.size))
      clear hb hd0 c10 c11 c12 c13 hT2
      go_wp2
      refine bodyPost_ret (v := .tuple #[.agg #[.int .i64 x2.toNat, .int .i64 x3.toNat, .int .i64 nx, .string (mk (b.drop 16))], .bool true]) (by simp [results, Tryd.results12, go_sem, d00, d01, d02, d03]) rfl ⟨by rw [hnx.out, hx2.out, hx3.out, hx4.out, hx5.out], ?_⟩
      exact ((((hbb.out.setCell (Nat.le_refl _) _).setCell (Nat.le_refl _) _).setCell (Nat.le_refl _) _).setCell (Nat.le_refl _) _)
set_option maxRecDepth 100000 in
set_option maxHeartbeats 1600000 in
theorem get_no1 (b : List UInt8) (w : World) (hT : Tab w) (h : b.length = 256) (hz0 : b ≠ zs 256) (hok : pgOk (pgOf b) = false) :
    Calls Tryd.prog 12 #[.string (mk b)] w fun en w' => en = .returned (.tuple #[.agg #[.int .i64 0, .int .i64 0, .int .i64 0, .string ⟨#[]⟩], .bool false]) ∧ Below w.heap.size w w' := by
  have h64 : 256 ≤ b.length := by omega
  have h64' : b.length ≤ 256 := by omega
  obtain ⟨x2, hx2⟩ : ∃ x, x = b.getD 2 0 := ⟨_, rfl⟩
  obtain ⟨x3, hx3⟩ : ∃ x, x = b.getD 3 0 := ⟨_, rfl⟩
  obtain ⟨x4, hx4⟩ : ∃ x, x = b.getD 4 0 := ⟨_, rfl⟩
  obtain ⟨x5, hx5⟩ : ∃ x, x = b.getD 5 0 := ⟨_, rfl⟩
  obtain ⟨nx, hnx⟩ : ∃ nx : Int, nx = (x4.toNat * 256 + x5.toNat : Int) := ⟨_, rfl⟩
  have g2 : ∀ h : 2 < (mk b).size, (mk b)[2] = x2 := fun h => by rw [mk_get, hx2]
  have g3 : ∀ h : 3 < (mk b).size, (mk b)[3] = x3 := fun h => by rw [mk_get, hx3]
  have g4 : ∀ h : 4 < (mk b).size, (mk b)[4] = x4 := fun h => by rw [mk_get, hx4]
  have g5 : ∀ h : 5 < (mk b).size, (mk b)[5] = x5 := fun h => by rw [mk_get, hx5]
  have hz : (b == zs 256) = false := beq_eq_false_iff_ne.2 hz0
  replace hz0 := Lib.hid hz0
  have hok' : pgOk ⟨x2.toNat, x3.toNat, nx, b.drop 16⟩ = false := by rw [hnx, hx2, hx3, hx4, hx5]; exact hok
  replace hok := Lib.hid hok'
  clear hok'
  have u2 := x2.toNat_lt
  have u3 := x3.toNat_lt
  have u4 := x4.toNat_lt
  have u5 := x5.toNat_lt
  have hor : bits .or .i64 ((x4.toNat : Int) * 256) (x5.toNat : Int) = nx := by rw [join8 _ _ (by omega) (by omega) (by omega) (by omega), hnx]
  have hw2 : IntKind.i64.wrap (x2.toNat : Int) = x2.toNat := IntWalk.i64_in _ (by omega)
  have hw3 : IntKind.i64.wrap (x3.toNat : Int) = x3.toNat := IntWalk.i64_in _ (by omega)
  have hw4 : IntKind.i64.wrap (x4.toNat : Int) = x4.toNat := IntWalk.i64_in _ (by omega)
  have hw5 : IntKind.i64.wrap (x5.toNat : Int) = x5.toNat := IntWalk.i64_in _ (by omega)
  have hw6 : IntKind.i64.wrap ((x4.toNat : Int) * 256) = x4.toNat * 256 := IntWalk.i64_in _ (by omega)
  replace hnx := Lib.hid hnx
  replace hx2 := Lib.hid hx2
  replace hx3 := Lib.hid hx3
  replace hx4 := Lib.hid hx4
  replace hx5 := Lib.hid hx5
  have hne : ((b.length : Int) != 256) = false := by rw [bne_eq_false_iff_eq]; omega
  have hsl := sl_from b 16 16 rfl (by omega)
  have i2 : (2 : Int) < b.length := by omega
  have i3 : (3 : Int) < b.length := by omega
  have i4 : (4 : Int) < b.length := by omega
  have i5 : (5 : Int) < b.length := by omega
  replace h := Lib.hid h
  go_enter Tryd.func12, Tryd.ntmps12
  go_wp2
  refine wp_region_held_drew (S := fun _ => Hid True) (by kernel_rfl) (Lib.hid trivial) (fun hHeld => ?_)
  refine wpAnyH_take (i := 0) (v := ?_) rfl (by kernel_rfl) (by kernel_rfl) (by kernel_rfl) (fun _ _ _ h => h) (Or.inl ⟨by rfl, ?_⟩) (by assumption) ?_
  rotate_left
  · (intro wS hSw; (try dsimp only at hSw); go_simp; (try with_reducible rfl))
  try simp only [Act.put, List.getElem_toArray, List.getElem_cons_succ, List.getElem_cons_zero, List.setIfInBounds_toArray, List.set_cons_zero, List.set_cons_succ]
  refine wpAnyH_take (i := 1) (v := ?_) rfl (by kernel_rfl) (by kernel_rfl) (by kernel_rfl) (fun _ _ _ h => h) (Or.inl ⟨by rfl, ?_⟩) (by assumption) ?_
  rotate_left
  · (intro wS hSw; (try dsimp only at hSw); go_simp; (try with_reducible rfl))
  try simp only [Act.put, List.getElem_toArray, List.getElem_cons_succ, List.getElem_cons_zero, List.setIfInBounds_toArray, List.set_cons_zero, List.set_cons_succ]
  refine wpAnyH_take (i := 2) (v := ?_) rfl (by kernel_rfl) (by kernel_rfl) (by kernel_rfl) (fun _ _ _ h => h) (Or.inl ⟨by rfl, ?_⟩) (by assumption) ?_
  rotate_left
  · (intro wS hSw; (try dsimp only at hSw); go_simp; (try with_reducible rfl))
  try simp only [Act.put, List.getElem_toArray, List.getElem_cons_succ, List.getElem_cons_zero, List.setIfInBounds_toArray, List.set_cons_zero, List.set_cons_succ]
  refine wpAnyH_take (i := 3) (v := ?_) rfl (by kernel_rfl) (by kernel_rfl) (by kernel_rfl) (fun _ _ _ h => h) (Or.inl ⟨by rfl, ?_⟩) (by assumption) ?_
  rotate_left
  · (intro wS hSw; (try dsimp only at hSw); go_simp; (try with_reducible rfl))
  try simp only [Act.put, List.getElem_toArray, List.getElem_cons_succ, List.getElem_cons_zero, List.setIfInBounds_toArray, List.set_cons_zero, List.set_cons_succ]
  refine wpAnyH_take (i := 4) (v := ?_) rfl (by kernel_rfl) (by kernel_rfl) (by kernel_rfl) (fun _ _ _ h => h) (Or.inl ⟨by rfl, ?_⟩) (by assumption) ?_
  rotate_left
  · (intro wS hSw; (try dsimp only at hSw); go_simp; (try with_reducible rfl))
  try simp only [Act.put, List.getElem_toArray, List.getElem_cons_succ, List.getElem_cons_zero, List.setIfInBounds_toArray, List.set_cons_zero, List.set_cons_succ]
  refine wpAnyH_take (i := 5) (v := ?_) rfl (by kernel_rfl) (by kernel_rfl) (by kernel_rfl) (fun _ _ _ h => h) (Or.inl ⟨by rfl, ?_⟩) (by assumption) ?_
  rotate_left
  · (intro wS hSw; (try dsimp only at hSw); go_simp; (try with_reducible rfl))
  try simp only [Act.put, List.getElem_toArray, List.getElem_cons_succ, List.getElem_cons_zero, List.setIfInBounds_toArray, List.set_cons_zero, List.set_cons_succ]
  refine wpAnyH_take (i := 6) (v := ?_) rfl (by kernel_rfl) (by kernel_rfl) (by kernel_rfl) (fun _ _ _ h => h) (Or.inl ⟨by rfl, ?_⟩) (by assumption) ?_
  rotate_left
  · (intro wS hSw; (try dsimp only at hSw); go_simp; (try with_reducible rfl))
  try simp only [Act.put, List.getElem_toArray, List.getElem_cons_succ, List.getElem_cons_zero, List.setIfInBounds_toArray, List.set_cons_zero, List.set_cons_succ]
  refine wpAnyH_take (i := 7) (v := ?_) rfl (by kernel_rfl) (by kernel_rfl) (by kernel_rfl) (fun _ _ _ h => h) (Or.inl ⟨by rfl, ?_⟩) (by assumption) ?_
  rotate_left
  · (intro wS hSw; (try dsimp only at hSw); go_simp; (try with_reducible rfl))
  try simp only [Act.put, List.getElem_toArray, List.getElem_cons_succ, List.getElem_cons_zero, List.setIfInBounds_toArray, List.set_cons_zero, List.set_cons_succ]
  refine wpAnyH_take (i := 8) (v := ?_) rfl (by kernel_rfl) (by kernel_rfl) (by kernel_rfl) (fun _ _ _ h => h) (Or.inl ⟨by rfl, ?_⟩) (by assumption) ?_
  rotate_left
  · (intro wS hSw; (try dsimp only at hSw); go_simp; (try with_reducible rfl))
  try simp only [Act.put, List.getElem_toArray, List.getElem_cons_succ, List.getElem_cons_zero, List.setIfInBounds_toArray, List.set_cons_zero, List.set_cons_succ]
  refine wpAnyH_take (i := 9) (v := ?_) rfl (by kernel_rfl) (by kernel_rfl) (by kernel_rfl) (fun _ _ _ h => h) (Or.inl ⟨by rfl, ?_⟩) (by assumption) ?_
  rotate_left
  · (intro wS hSw; (try dsimp only at hSw); go_simp; (try with_reducible rfl))
  try simp only [Act.put, List.getElem_toArray, List.getElem_cons_succ, List.getElem_cons_zero, List.setIfInBounds_toArray, List.set_cons_zero, List.set_cons_succ]
  refine wpAnyH_take (i := 10) (v := ?_) rfl (by kernel_rfl) (by kernel_rfl) (by kernel_rfl) (fun _ _ _ h => h) (Or.inl ⟨by rfl, ?_⟩) (by assumption) ?_
  rotate_left
  · (intro wS hSw; (try dsimp only at hSw); go_simp; (try with_reducible rfl))
  try simp only [Act.put, List.getElem_toArray, List.getElem_cons_succ, List.getElem_cons_zero, List.setIfInBounds_toArray, List.set_cons_zero, List.set_cons_succ]
  refine wpAnyH_take (i := 11) (v := ?_) rfl (by kernel_rfl) (by kernel_rfl) (by kernel_rfl) (fun _ _ _ h => h) (Or.inl ⟨by rfl, ?_⟩) (by assumption) ?_
  rotate_left
  · (intro wS hSw; (try dsimp only at hSw); go_simp; (try with_reducible rfl))
  try simp only [Act.put, List.getElem_toArray, List.getElem_cons_succ, List.getElem_cons_zero, List.setIfInBounds_toArray, List.set_cons_zero, List.set_cons_succ]
  refine wpAnyH_take (i := 12) (v := ?_) rfl (by kernel_rfl) (by kernel_rfl) (by kernel_rfl) (fun _ _ _ h => h) (Or.inl ⟨by rfl, ?_⟩) (by assumption) ?_
  rotate_left
  · (intro wS hSw; (try dsimp only at hSw); go_simp; (try with_reducible rfl))
  try simp only [Act.put, List.getElem_toArray, List.getElem_cons_succ, List.getElem_cons_zero, List.setIfInBounds_toArray, List.set_cons_zero, List.set_cons_succ]
  refine wpAnyH_take (i := 13) (v := ?_) rfl (by kernel_rfl) (by kernel_rfl) (by kernel_rfl) (fun _ _ _ h => h) (Or.inl ⟨by rfl, ?_⟩) (by assumption) ?_
  rotate_left
  · (intro wS hSw; (try dsimp only at hSw); go_simp; (try with_reducible rfl))
  try simp only [Act.put, List.getElem_toArray, List.getElem_cons_succ, List.getElem_cons_zero, List.setIfInBounds_toArray, List.set_cons_zero, List.set_cons_succ]
  refine wpAnyH_take (i := 14) (v := ?_) rfl (by kernel_rfl) (by kernel_rfl) (by kernel_rfl) (fun _ _ _ h => h) (Or.inl ⟨by rfl, ?_⟩) (by assumption) ?_
  rotate_left
  · (intro wS hSw; (try dsimp only at hSw); go_simp; (try with_reducible rfl))
  try simp only [Act.put, List.getElem_toArray, List.getElem_cons_succ, List.getElem_cons_zero, List.setIfInBounds_toArray, List.set_cons_zero, List.set_cons_succ]
  refine wpAnyH_take (i := 15) (v := ?_) rfl (by kernel_rfl) (by kernel_rfl) (by kernel_rfl) (fun _ _ _ h => h) (Or.inl ⟨by rfl, ?_⟩) (by assumption) ?_
  rotate_left
  · (intro wS hSw; (try dsimp only at hSw); go_simp; (try with_reducible rfl))
  try simp only [Act.put, List.getElem_toArray, List.getElem_cons_succ, List.getElem_cons_zero, List.setIfInBounds_toArray, List.set_cons_zero, List.set_cons_succ]
  refine wpAnyH_take (i := 16) (v := ?_) rfl (by kernel_rfl) (by kernel_rfl) (by kernel_rfl) (fun _ _ _ h => h) (Or.inl ⟨by rfl, ?_⟩) (by assumption) ?_
  rotate_left
  · (intro wS hSw; (try dsimp only at hSw); go_simp; (try with_reducible rfl))
  try simp only [Act.put, List.getElem_toArray, List.getElem_cons_succ, List.getElem_cons_zero, List.setIfInBounds_toArray, List.set_cons_zero, List.set_cons_succ]
  refine wpAnyH_ready (rs := [17]) (by kernel_rfl) (by simp) ?_
  refine AllReadyH.cons rfl (fun K hK => ?_) AllReadyH.nil
  · simp only [List.getElem_toArray, List.getElem_cons_succ, List.getElem_cons_zero]
    go_simp
    refine hK.out _ _ (Lib.hid trivial) (fun hHeld => ?_)
    clear hK K
    try simp only [Act.put, List.getElem_toArray, List.getElem_cons_succ, List.getElem_cons_zero, List.setIfInBounds_toArray, List.set_cons_zero, List.set_cons_succ]
    refine wpAnyH_ready (rs := [18]) (by kernel_rfl) (by simp) ?_
    refine AllReadyH.cons rfl (fun K hK => ?_) AllReadyH.nil
    · simp only [List.getElem_toArray, List.getElem_cons_succ, List.getElem_cons_zero]
      go_simp
      refine hK.out _ _ (Lib.hid trivial) (fun hHeld => ?_)
      clear hK K
      try simp only [Act.put, List.getElem_toArray, List.getElem_cons_succ, List.getElem_cons_zero, List.setIfInBounds_toArray, List.set_cons_zero, List.set_cons_succ]
      refine wpAnyH_done (by kernel_rfl) ?_ _
      go_wp2_with fail
      refine (zeros_any 256 256 _ rfl (by omega)).mono ?_
      rintro en wq ⟨rfl, hb⟩
      have hb1 : wq.heap[w.heap.size + 1]? = some (.cells #[.int .i64 x2.toNat, .int .i64 x3.toNat, .int .i64 nx, .string (mk (b.drop 16))] 23 (0, 0)) := (hb.block _ (by simp)).trans (cells_two _ _ _)
      have hb0 : wq.heap[w.heap.size]? = some (.cells #[.int .i64 0, .int .i64 0, .int .i64 0, .string ⟨#[]⟩] 23 (0, 0)) := (hb.block _ (by simp; omega)).trans (cells_one _ _ _)
      have hT2 : Tab wq := (hT.more (((Below.refl w.heap.size w).alloc (Nat.le_refl _) _).alloc (by simp) _).drew).more hb
      have c10 : wq.cell? ⟨w.heap.size + 1, 0, none⟩ = some (.int .i64 x2.toNat) := cell_of hb1 rfl
      have c11 : wq.cell? ⟨w.heap.size + 1, 1, none⟩ = some (.int .i64 x3.toNat) := cell_of hb1 rfl
      have c12 : wq.cell? ⟨w.heap.size + 1, 2, none⟩ = some (.int .i64 nx) := cell_of hb1 rfl
      have c13 : wq.cell? ⟨w.heap.size + 1, 3, none⟩ = some (.string (mk (b.drop 16))) := cell_of hb1 rfl
      have c00 : wq.cell? ⟨w.heap.size, 0, none⟩ = some (.int .i64 0) := cell_of hb0 rfl
      have c01 : wq.cell? ⟨w.heap.size, 1, none⟩ = some (.int .i64 0) := cell_of hb0 rfl
      have c02 : wq.cell? ⟨w.heap.size, 2, none⟩ = some (.int .i64 0) := cell_of hb0 rfl
      have c03 : wq.cell? ⟨w.heap.size, 3, none⟩ = some (.string ⟨#[]⟩) := cell_of hb0 rfl
      have f00 := free_of (i := 0) hb0
      have f01 := free_of (i := 1) hb0
      have f02 := free_of (i := 2) hb0
      have f03 := free_of (i := 3) hb0
      have hbb := Lib.hid (below_two hb)
      replace hb0 := Lib.hid hb0
      replace hb1 := Lib.hid hb1
      clear hb hT
      clear c00 c01 c02 c03 f00 f01 f02 f03
      go_wp2_with fail
      refine (put_any _ _ _ (b.drop 16) _ hT2 (by simp; omega)).mono ?_
      rintro en wr ⟨rfl, hb⟩
      rw [show putV ⟨x2.toNat, x3.toNat, nx, b.drop 16⟩ = .tuple #[.string ByteArray.empty, .bool false] from by rw [putV, if_neg (by rw [hok.out]; decide)]]
      have d10 := same_cell hb c10
      have d11 := same_cell hb c11
      have d12 := same_cell hb c12
      have d13 := same_cell hb c13
      have hd0 := (hb.block _ (lt_of hb0.out)).trans hb0.out
      have d00 : wr.cell? ⟨w.heap.size, 0, none⟩ = some (.int .i64 0) := cell_of hd0 rfl
      have d01 : wr.cell? ⟨w.heap.size, 1, none⟩ = some (.int .i64 0) := cell_of hd0 rfl
      have d02 : wr.cell? ⟨w.heap.size, 2, none⟩ = some (.int .i64 0) := cell_of hd0 rfl
      have d03 : wr.cell? ⟨w.heap.size, 3, none⟩ = some (.string ⟨#[]⟩) := cell_of hd0 rfl
      have e00 := free_of (i := 0) hd0
      have e01 := free_of (i := 1) hd0
      have e02 := free_of (i := 2) hd0
      have e03 := free_of (i := 3) hd0
      replace hbb := Lib.hid (hbb.out.trans (hb.mono hbb.out.size))
      clear hb hd0 c10 c11 c12 c13 hT2
      go_wp2
      refine bodyPost_ret (v := .tuple #[.agg #[.int .i64 0, .int .i64 0, .int .i64 0, .string ⟨#[]⟩], .bool false]) (by simp [results, Tryd.results12, go_sem, d00, d01, d02, d03]) rfl ⟨rfl, ?_⟩
      exact ((((hbb.out.setCell (Nat.le_refl _) _).setCell (Nat.le_refl _) _).setCell (Nat.le_refl _) _).setCell (Nat.le_refl _) _)
set_option maxRecDepth 100000 in
set_option maxHeartbeats 1600000 in
theorem get_no2 (b : List UInt8) (w : World) (hT : Tab w) (h : b.length = 256) (hz0 : b ≠ zs 256) (hok : pgOk (pgOf b) = true) (heq : penc (pgOf b) ≠ b) :
    Calls Tryd.prog 12 #[.string (mk b)] w fun en w' => en = .returned (.tuple #[.agg #[.int .i64 0, .int .i64 0, .int .i64 0, .string ⟨#[]⟩], .bool false]) ∧ Below w.heap.size w w' := by
  have h64 : 256 ≤ b.length := by omega
  have h64' : b.length ≤ 256 := by omega
  obtain ⟨x2, hx2⟩ : ∃ x, x = b.getD 2 0 := ⟨_, rfl⟩
  obtain ⟨x3, hx3⟩ : ∃ x, x = b.getD 3 0 := ⟨_, rfl⟩
  obtain ⟨x4, hx4⟩ : ∃ x, x = b.getD 4 0 := ⟨_, rfl⟩
  obtain ⟨x5, hx5⟩ : ∃ x, x = b.getD 5 0 := ⟨_, rfl⟩
  obtain ⟨nx, hnx⟩ : ∃ nx : Int, nx = (x4.toNat * 256 + x5.toNat : Int) := ⟨_, rfl⟩
  have g2 : ∀ h : 2 < (mk b).size, (mk b)[2] = x2 := fun h => by rw [mk_get, hx2]
  have g3 : ∀ h : 3 < (mk b).size, (mk b)[3] = x3 := fun h => by rw [mk_get, hx3]
  have g4 : ∀ h : 4 < (mk b).size, (mk b)[4] = x4 := fun h => by rw [mk_get, hx4]
  have g5 : ∀ h : 5 < (mk b).size, (mk b)[5] = x5 := fun h => by rw [mk_get, hx5]
  have hz : (b == zs 256) = false := beq_eq_false_iff_ne.2 hz0
  replace hz0 := Lib.hid hz0
  have hok' : pgOk ⟨x2.toNat, x3.toNat, nx, b.drop 16⟩ = true := by rw [hnx, hx2, hx3, hx4, hx5]; exact hok
  replace hok := Lib.hid hok'
  clear hok'
  have hee : (penc ⟨x2.toNat, x3.toNat, nx, b.drop 16⟩ == b) = false := by rw [hnx, hx2, hx3, hx4, hx5]; exact beq_eq_false_iff_ne.2 heq
  obtain ⟨pe, hpe⟩ : ∃ pe, pe = penc ⟨x2.toNat, x3.toNat, nx, b.drop 16⟩ := ⟨_, rfl⟩
  rw [← hpe] at hee
  replace hpe := Lib.hid hpe
  have u2 := x2.toNat_lt
  have u3 := x3.toNat_lt
  have u4 := x4.toNat_lt
  have u5 := x5.toNat_lt
  have hor : bits .or .i64 ((x4.toNat : Int) * 256) (x5.toNat : Int) = nx := by rw [join8 _ _ (by omega) (by omega) (by omega) (by omega), hnx]
  have hw2 : IntKind.i64.wrap (x2.toNat : Int) = x2.toNat := IntWalk.i64_in _ (by omega)
  have hw3 : IntKind.i64.wrap (x3.toNat : Int) = x3.toNat := IntWalk.i64_in _ (by omega)
  have hw4 : IntKind.i64.wrap (x4.toNat : Int) = x4.toNat := IntWalk.i64_in _ (by omega)
  have hw5 : IntKind.i64.wrap (x5.toNat : Int) = x5.toNat := IntWalk.i64_in _ (by omega)
  have hw6 : IntKind.i64.wrap ((x4.toNat : Int) * 256) = x4.toNat * 256 := IntWalk.i64_in _ (by omega)
  replace hnx := Lib.hid hnx
  replace hx2 := Lib.hid hx2
  replace hx3 := Lib.hid hx3
  replace hx4 := Lib.hid hx4
  replace hx5 := Lib.hid hx5
  have hne : ((b.length : Int) != 256) = false := by rw [bne_eq_false_iff_eq]; omega
  have hsl := sl_from b 16 16 rfl (by omega)
  have i2 : (2 : Int) < b.length := by omega
  have i3 : (3 : Int) < b.length := by omega
  have i4 : (4 : Int) < b.length := by omega
  have i5 : (5 : Int) < b.length := by omega
  replace h := Lib.hid h
  go_enter Tryd.func12, Tryd.ntmps12
  go_wp2
  refine wp_region_held_drew (S := fun _ => Hid True) (by kernel_rfl) (Lib.hid trivial) (fun hHeld => ?_)
  refine wpAnyH_take (i := 0) (v := ?_) rfl (by kernel_rfl) (by kernel_rfl) (by kernel_rfl) (fun _ _ _ h => h) (Or.inl ⟨by rfl, ?_⟩) (by assumption) ?_
  rotate_left
  · (intro wS hSw; (try dsimp only at hSw); go_simp; (try with_reducible rfl))
  try simp only [Act.put, List.getElem_toArray, List.getElem_cons_succ, List.getElem_cons_zero, List.setIfInBounds_toArray, List.set_cons_zero, List.set_cons_succ]
  refine wpAnyH_take (i := 1) (v := ?_) rfl (by kernel_rfl) (by kernel_rfl) (by kernel_rfl) (fun _ _ _ h => h) (Or.inl ⟨by rfl, ?_⟩) (by assumption) ?_
  rotate_left
  · (intro wS hSw; (try dsimp only at hSw); go_simp; (try with_reducible rfl))
  try simp only [Act.put, List.getElem_toArray, List.getElem_cons_succ, List.getElem_cons_zero, List.setIfInBounds_toArray, List.set_cons_zero, List.set_cons_succ]
  refine wpAnyH_take (i := 2) (v := ?_) rfl (by kernel_rfl) (by kernel_rfl) (by kernel_rfl) (fun _ _ _ h => h) (Or.inl ⟨by rfl, ?_⟩) (by assumption) ?_
  rotate_left
  · (intro wS hSw; (try dsimp only at hSw); go_simp; (try with_reducible rfl))
  try simp only [Act.put, List.getElem_toArray, List.getElem_cons_succ, List.getElem_cons_zero, List.setIfInBounds_toArray, List.set_cons_zero, List.set_cons_succ]
  refine wpAnyH_take (i := 3) (v := ?_) rfl (by kernel_rfl) (by kernel_rfl) (by kernel_rfl) (fun _ _ _ h => h) (Or.inl ⟨by rfl, ?_⟩) (by assumption) ?_
  rotate_left
  · (intro wS hSw; (try dsimp only at hSw); go_simp; (try with_reducible rfl))
  try simp only [Act.put, List.getElem_toArray, List.getElem_cons_succ, List.getElem_cons_zero, List.setIfInBounds_toArray, List.set_cons_zero, List.set_cons_succ]
  refine wpAnyH_take (i := 4) (v := ?_) rfl (by kernel_rfl) (by kernel_rfl) (by kernel_rfl) (fun _ _ _ h => h) (Or.inl ⟨by rfl, ?_⟩) (by assumption) ?_
  rotate_left
  · (intro wS hSw; (try dsimp only at hSw); go_simp; (try with_reducible rfl))
  try simp only [Act.put, List.getElem_toArray, List.getElem_cons_succ, List.getElem_cons_zero, List.setIfInBounds_toArray, List.set_cons_zero, List.set_cons_succ]
  refine wpAnyH_take (i := 5) (v := ?_) rfl (by kernel_rfl) (by kernel_rfl) (by kernel_rfl) (fun _ _ _ h => h) (Or.inl ⟨by rfl, ?_⟩) (by assumption) ?_
  rotate_left
  · (intro wS hSw; (try dsimp only at hSw); go_simp; (try with_reducible rfl))
  try simp only [Act.put, List.getElem_toArray, List.getElem_cons_succ, List.getElem_cons_zero, List.setIfInBounds_toArray, List.set_cons_zero, List.set_cons_succ]
  refine wpAnyH_take (i := 6) (v := ?_) rfl (by kernel_rfl) (by kernel_rfl) (by kernel_rfl) (fun _ _ _ h => h) (Or.inl ⟨by rfl, ?_⟩) (by assumption) ?_
  rotate_left
  · (intro wS hSw; (try dsimp only at hSw); go_simp; (try with_reducible rfl))
  try simp only [Act.put, List.getElem_toArray, List.getElem_cons_succ, List.getElem_cons_zero, List.setIfInBounds_toArray, List.set_cons_zero, List.set_cons_succ]
  refine wpAnyH_take (i := 7) (v := ?_) rfl (by kernel_rfl) (by kernel_rfl) (by kernel_rfl) (fun _ _ _ h => h) (Or.inl ⟨by rfl, ?_⟩) (by assumption) ?_
  rotate_left
  · (intro wS hSw; (try dsimp only at hSw); go_simp; (try with_reducible rfl))
  try simp only [Act.put, List.getElem_toArray, List.getElem_cons_succ, List.getElem_cons_zero, List.setIfInBounds_toArray, List.set_cons_zero, List.set_cons_succ]
  refine wpAnyH_take (i := 8) (v := ?_) rfl (by kernel_rfl) (by kernel_rfl) (by kernel_rfl) (fun _ _ _ h => h) (Or.inl ⟨by rfl, ?_⟩) (by assumption) ?_
  rotate_left
  · (intro wS hSw; (try dsimp only at hSw); go_simp; (try with_reducible rfl))
  try simp only [Act.put, List.getElem_toArray, List.getElem_cons_succ, List.getElem_cons_zero, List.setIfInBounds_toArray, List.set_cons_zero, List.set_cons_succ]
  refine wpAnyH_take (i := 9) (v := ?_) rfl (by kernel_rfl) (by kernel_rfl) (by kernel_rfl) (fun _ _ _ h => h) (Or.inl ⟨by rfl, ?_⟩) (by assumption) ?_
  rotate_left
  · (intro wS hSw; (try dsimp only at hSw); go_simp; (try with_reducible rfl))
  try simp only [Act.put, List.getElem_toArray, List.getElem_cons_succ, List.getElem_cons_zero, List.setIfInBounds_toArray, List.set_cons_zero, List.set_cons_succ]
  refine wpAnyH_take (i := 10) (v := ?_) rfl (by kernel_rfl) (by kernel_rfl) (by kernel_rfl) (fun _ _ _ h => h) (Or.inl ⟨by rfl, ?_⟩) (by assumption) ?_
  rotate_left
  · (intro wS hSw; (try dsimp only at hSw); go_simp; (try with_reducible rfl))
  try simp only [Act.put, List.getElem_toArray, List.getElem_cons_succ, List.getElem_cons_zero, List.setIfInBounds_toArray, List.set_cons_zero, List.set_cons_succ]
  refine wpAnyH_take (i := 11) (v := ?_) rfl (by kernel_rfl) (by kernel_rfl) (by kernel_rfl) (fun _ _ _ h => h) (Or.inl ⟨by rfl, ?_⟩) (by assumption) ?_
  rotate_left
  · (intro wS hSw; (try dsimp only at hSw); go_simp; (try with_reducible rfl))
  try simp only [Act.put, List.getElem_toArray, List.getElem_cons_succ, List.getElem_cons_zero, List.setIfInBounds_toArray, List.set_cons_zero, List.set_cons_succ]
  refine wpAnyH_take (i := 12) (v := ?_) rfl (by kernel_rfl) (by kernel_rfl) (by kernel_rfl) (fun _ _ _ h => h) (Or.inl ⟨by rfl, ?_⟩) (by assumption) ?_
  rotate_left
  · (intro wS hSw; (try dsimp only at hSw); go_simp; (try with_reducible rfl))
  try simp only [Act.put, List.getElem_toArray, List.getElem_cons_succ, List.getElem_cons_zero, List.setIfInBounds_toArray, List.set_cons_zero, List.set_cons_succ]
  refine wpAnyH_take (i := 13) (v := ?_) rfl (by kernel_rfl) (by kernel_rfl) (by kernel_rfl) (fun _ _ _ h => h) (Or.inl ⟨by rfl, ?_⟩) (by assumption) ?_
  rotate_left
  · (intro wS hSw; (try dsimp only at hSw); go_simp; (try with_reducible rfl))
  try simp only [Act.put, List.getElem_toArray, List.getElem_cons_succ, List.getElem_cons_zero, List.setIfInBounds_toArray, List.set_cons_zero, List.set_cons_succ]
  refine wpAnyH_take (i := 14) (v := ?_) rfl (by kernel_rfl) (by kernel_rfl) (by kernel_rfl) (fun _ _ _ h => h) (Or.inl ⟨by rfl, ?_⟩) (by assumption) ?_
  rotate_left
  · (intro wS hSw; (try dsimp only at hSw); go_simp; (try with_reducible rfl))
  try simp only [Act.put, List.getElem_toArray, List.getElem_cons_succ, List.getElem_cons_zero, List.setIfInBounds_toArray, List.set_cons_zero, List.set_cons_succ]
  refine wpAnyH_take (i := 15) (v := ?_) rfl (by kernel_rfl) (by kernel_rfl) (by kernel_rfl) (fun _ _ _ h => h) (Or.inl ⟨by rfl, ?_⟩) (by assumption) ?_
  rotate_left
  · (intro wS hSw; (try dsimp only at hSw); go_simp; (try with_reducible rfl))
  try simp only [Act.put, List.getElem_toArray, List.getElem_cons_succ, List.getElem_cons_zero, List.setIfInBounds_toArray, List.set_cons_zero, List.set_cons_succ]
  refine wpAnyH_take (i := 16) (v := ?_) rfl (by kernel_rfl) (by kernel_rfl) (by kernel_rfl) (fun _ _ _ h => h) (Or.inl ⟨by rfl, ?_⟩) (by assumption) ?_
  rotate_left
  · (intro wS hSw; (try dsimp only at hSw); go_simp; (try with_reducible rfl))
  try simp only [Act.put, List.getElem_toArray, List.getElem_cons_succ, List.getElem_cons_zero, List.setIfInBounds_toArray, List.set_cons_zero, List.set_cons_succ]
  refine wpAnyH_ready (rs := [17]) (by kernel_rfl) (by simp) ?_
  refine AllReadyH.cons rfl (fun K hK => ?_) AllReadyH.nil
  · simp only [List.getElem_toArray, List.getElem_cons_succ, List.getElem_cons_zero]
    go_simp
    refine hK.out _ _ (Lib.hid trivial) (fun hHeld => ?_)
    clear hK K
    try simp only [Act.put, List.getElem_toArray, List.getElem_cons_succ, List.getElem_cons_zero, List.setIfInBounds_toArray, List.set_cons_zero, List.set_cons_succ]
    refine wpAnyH_ready (rs := [18]) (by kernel_rfl) (by simp) ?_
    refine AllReadyH.cons rfl (fun K hK => ?_) AllReadyH.nil
    · simp only [List.getElem_toArray, List.getElem_cons_succ, List.getElem_cons_zero]
      go_simp
      refine hK.out _ _ (Lib.hid trivial) (fun hHeld => ?_)
      clear hK K
      try simp only [Act.put, List.getElem_toArray, List.getElem_cons_succ, List.getElem_cons_zero, List.setIfInBounds_toArray, List.set_cons_zero, List.set_cons_succ]
      refine wpAnyH_done (by kernel_rfl) ?_ _
      go_wp2_with fail
      refine (zeros_any 256 256 _ rfl (by omega)).mono ?_
      rintro en wq ⟨rfl, hb⟩
      have hb1 : wq.heap[w.heap.size + 1]? = some (.cells #[.int .i64 x2.toNat, .int .i64 x3.toNat, .int .i64 nx, .string (mk (b.drop 16))] 23 (0, 0)) := (hb.block _ (by simp)).trans (cells_two _ _ _)
      have hb0 : wq.heap[w.heap.size]? = some (.cells #[.int .i64 0, .int .i64 0, .int .i64 0, .string ⟨#[]⟩] 23 (0, 0)) := (hb.block _ (by simp; omega)).trans (cells_one _ _ _)
      have hT2 : Tab wq := (hT.more (((Below.refl w.heap.size w).alloc (Nat.le_refl _) _).alloc (by simp) _).drew).more hb
      have c10 : wq.cell? ⟨w.heap.size + 1, 0, none⟩ = some (.int .i64 x2.toNat) := cell_of hb1 rfl
      have c11 : wq.cell? ⟨w.heap.size + 1, 1, none⟩ = some (.int .i64 x3.toNat) := cell_of hb1 rfl
      have c12 : wq.cell? ⟨w.heap.size + 1, 2, none⟩ = some (.int .i64 nx) := cell_of hb1 rfl
      have c13 : wq.cell? ⟨w.heap.size + 1, 3, none⟩ = some (.string (mk (b.drop 16))) := cell_of hb1 rfl
      have c00 : wq.cell? ⟨w.heap.size, 0, none⟩ = some (.int .i64 0) := cell_of hb0 rfl
      have c01 : wq.cell? ⟨w.heap.size, 1, none⟩ = some (.int .i64 0) := cell_of hb0 rfl
      have c02 : wq.cell? ⟨w.heap.size, 2, none⟩ = some (.int .i64 0) := cell_of hb0 rfl
      have c03 : wq.cell? ⟨w.heap.size, 3, none⟩ = some (.string ⟨#[]⟩) := cell_of hb0 rfl
      have f00 := free_of (i := 0) hb0
      have f01 := free_of (i := 1) hb0
      have f02 := free_of (i := 2) hb0
      have f03 := free_of (i := 3) hb0
      have hbb := Lib.hid (below_two hb)
      replace hb0 := Lib.hid hb0
      replace hb1 := Lib.hid hb1
      clear hb hT
      clear c00 c01 c02 c03 f00 f01 f02 f03
      go_wp2_with fail
      refine (put_any _ _ _ (b.drop 16) _ hT2 (by simp; omega)).mono ?_
      rintro en wr ⟨rfl, hb⟩
      rw [show putV ⟨x2.toNat, x3.toNat, nx, b.drop 16⟩ = .tuple #[.string (mk pe), .bool true] from by rw [putV, if_pos hok.out, hpe.out]]
      have d10 := same_cell hb c10
      have d11 := same_cell hb c11
      have d12 := same_cell hb c12
      have d13 := same_cell hb c13
      have hd0 := (hb.block _ (lt_of hb0.out)).trans hb0.out
      have d00 : wr.cell? ⟨w.heap.size, 0, none⟩ = some (.int .i64 0) := cell_of hd0 rfl
      have d01 : wr.cell? ⟨w.heap.size, 1, none⟩ = some (.int .i64 0) := cell_of hd0 rfl
      have d02 : wr.cell? ⟨w.heap.size, 2, none⟩ = some (.int .i64 0) := cell_of hd0 rfl
      have d03 : wr.cell? ⟨w.heap.size, 3, none⟩ = some (.string ⟨#[]⟩) := cell_of hd0 rfl
      have e00 := free_of (i := 0) hd0
      have e01 := free_of (i := 1) hd0
      have e02 := free_of (i := 2) hd0
      have e03 := free_of (i := 3) hd0
      replace hbb := Lib.hid (hbb.out.trans (hb.mono hbb.out.size))
      clear hb hd0 c10 c11 c12 c13 hT2
      go_wp2
      refine bodyPost_ret (v := .tuple #[.agg #[.int .i64 0, .int .i64 0, .int .i64 0, .string ⟨#[]⟩], .bool false]) (by simp [results, Tryd.results12, go_sem, d00, d01, d02, d03]) rfl ⟨rfl, ?_⟩
      exact ((((hbb.out.setCell (Nat.le_refl _) _).setCell (Nat.le_refl _) _).setCell (Nat.le_refl _) _).setCell (Nat.le_refl _) _)
set_option maxHeartbeats 400000 in
theorem get_short (b : List UInt8) (w : World) (hb : b.length ≤ 140737488351232) (h : b.length ≠ 256) :
    Calls Tryd.prog 12 #[.string (mk b)] w fun en w' => en = .returned (.tuple #[.agg #[.int .i64 0, .int .i64 0, .int .i64 0, .string ⟨#[]⟩], .bool false]) ∧ Below w.heap.size w w' := by
  have hne : ((b.length : Int) != 256) = true := by rw [bne_iff_ne]; omega
  go_enter Tryd.func12, Tryd.ntmps12
  go_wp2
  refine bodyPost_ret (v := .tuple #[.agg #[.int .i64 0, .int .i64 0, .int .i64 0, .string ⟨#[]⟩], .bool false]) (by simp [results, Tryd.results12, go_sem]) rfl ⟨rfl, ?_⟩
  exact (Below.refl _ _).alloc (Nat.le_refl _) _
/-- What Get answers. -/
def pgV (p : Option Pg) : Value := match p with
  | some p => .tuple #[.agg #[.int .i64 p.kind, .int .i64 p.depth, .int .i64 p.next, .string (mk p.body)], .bool true]
  | none => .tuple #[.agg #[.int .i64 0, .int .i64 0, .int .i64 0, .string ⟨#[]⟩], .bool false]
theorem pgOf_zs : pgOf (zs 256) = ⟨0, 0, 0, zs 240⟩ := rfl
theorem get_any (b : List UInt8) (w : World) (hT : Tab w) (hb : b.length ≤ 140737488351232) :
    Calls Tryd.prog 12 #[.string (mk b)] w fun en w' => en = .returned (pgV (pdec b)) ∧ Below w.heap.size w w' := by
  by_cases c1 : b.length = 256
  · by_cases c2 : b = zs 256
    · refine (get_z b w hT c1 c2).mono fun en w' ⟨he, hw⟩ => ⟨?_, hw⟩
      rw [he, pdec, if_pos c1, if_pos c2, ← pgOf_zs, ← c2]
      rfl
    · cases c3 : pgOk (pgOf b) with
      | true =>
        by_cases c4 : penc (pgOf b) = b
        · refine (get_yes b w hT c1 c2 c3 c4).mono fun en w' ⟨he, hw⟩ => ⟨?_, hw⟩
          rw [he, pdec, if_pos c1, if_neg c2, if_pos ⟨c3, c4⟩]
          rfl
        · refine (get_no2 b w hT c1 c2 c3 c4).mono fun en w' ⟨he, hw⟩ => ⟨?_, hw⟩
          rw [he, pdec, if_pos c1, if_neg c2, if_neg (fun c => c4 c.2)]
          rfl
      | false =>
        refine (get_no1 b w hT c1 c2 c3).mono fun en w' ⟨he, hw⟩ => ⟨?_, hw⟩
        rw [he, pdec, if_pos c1, if_neg c2, if_neg (fun c => by rw [c3] at c; cases c.1)]
        rfl
  · refine (get_short b w hb c1).mono fun en w' ⟨he, hw⟩ => ⟨?_, hw⟩
    rw [he, pdec, if_neg c1]
    rfl
end Go.Proofs.YtcmbofoddfhnjaaDoor
