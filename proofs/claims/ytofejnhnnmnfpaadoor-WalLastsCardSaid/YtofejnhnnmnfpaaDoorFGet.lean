/- Get of package frame. No condition. -/
import Derived.Test.YtofejnhnnmnfpaaDoorFPut
namespace Go.Proofs.YtofejnhnnmnfpaaDoor.Fr
set_option maxRecDepth 100000
open Go.RowKit
attribute [local go_sem] mk_size

attribute [local go_sem] mk_ext
theorem cells_two (w : World) (o1 o2 : Obj) : ((w.alloc o1).alloc o2).drew.heap[w.heap.size + 1]? = some o2 := by
  have := heap_alloc_new (w.alloc o1) o2
  rw [show (w.alloc o1).heap.size = w.heap.size + 1 by simp] at this
  exact this
theorem cells_one (w : World) (o1 o2 : Obj) : ((w.alloc o1).alloc o2).drew.heap[w.heap.size]? = some o1 := by
  have h := Below.heap_alloc (w.alloc o1) o2 w.heap.size (by simp)
  exact h.trans (heap_alloc_new w o1)
theorem below_two {w w' : World} {o1 o2 : Obj} (hb : Below ((w.alloc o1).alloc o2).drew.heap.size ((w.alloc o1).alloc o2).drew w') : Below w.heap.size w w' :=
  (((Below.refl _ _).alloc (Nat.le_refl _) o1).alloc (by simp) o2).drew.trans (hb.mono (by simp; omega))
set_option maxHeartbeats 1600000 in
theorem get_yes (b : List UInt8) (w : World) (h : b.length = 64) (h7 : ((b.getD 7 0).toNat : Int) ≤ 56) (hok : secOk (val (b.take 4)) (val ((b.drop 4).take 2)) ((b.drop 8).take (b.getD 7 0).toNat) = true) (heq : enc (val (b.take 4)) (val ((b.drop 4).take 2)) (((b.getD 6 0).toNat : Int) == 2) ((b.drop 8).take (b.getD 7 0).toNat) = b) :
    Calls Tryd.prog 78 #[.string (mk b)] w fun en w' => en = .returned (.tuple #[.agg #[.int .i64 (val (b.take 4)), .int .i64 (val ((b.drop 4).take 2)), .bool (((b.getD 6 0).toNat : Int) == 2), .string (mk ((b.drop 8).take (b.getD 7 0).toNat))], .bool true]) ∧ Below w.heap.size w w' := by
  have h64 : 64 ≤ b.length := by omega
  have h64' : b.length ≤ 64 := by omega
  obtain ⟨x6, hx6⟩ : ∃ x, x = b.getD 6 0 := ⟨_, rfl⟩
  obtain ⟨x7, hx7⟩ : ∃ x, x = b.getD 7 0 := ⟨_, rfl⟩
  rw [← hx7] at h7
  have g6 : ∀ h : 6 < (mk b).size, (mk b)[6] = x6 := fun h => by rw [mk_get, hx6]
  have g7 : ∀ h : 7 < (mk b).size, (mk b)[7] = x7 := fun h => by rw [mk_get, hx7]
  replace hx6 := Lib.hid hx6
  replace hx7 := Lib.hid hx7
  have hne : ((b.length : Int) != 64) = false := by rw [bne_eq_false_iff_eq]; omega
  have hsl : ∀ w, (Instr.slice 9 (.string (mk b)) (some (.int .i64 8)) (some (.int .i64 (8 + (x7.toNat : Int)))) none).run Tryd.prog w = .ok (.string (mk ((b.drop 8).take x7.toNat))) w := fun w => by
    rw [run_slice_string w 9 (mk b) .i64 .i64 8 (8 + (x7.toNat : Int)) Tryd.underlying9 (by omega) (by omega) (by rw [mk_size]; omega), mk_ext, show ((8 : Int) + x7.toNat).toNat - (8 : Int).toNat = x7.toNat by omega]
    rfl
  have hw7 : IntKind.i64.wrap (x7.toNat : Int) = x7.toNat := IntWalk.i64_in _ (by omega)
  have i61 : (6 : Int) < b.length := by omega
  have i71 : (7 : Int) < b.length := by omega
  have i4 : (4 : Int) ≤ b.length := by omega
  have i6 : (6 : Int) ≤ b.length := by omega
  have i8 : (8 : Int) + x7.toNat ≤ b.length := by omega
  have i8' : (8 : Int) + x7.toNat ≤ 64 := by omega
  have hw8 : IntKind.i64.wrap ((8 : Int) + x7.toNat) = 8 + x7.toNat := IntWalk.i64_in _ (by omega)
  replace h := Lib.hid h
  rw [← hx7.out] at hok heq
  rw [← hx6.out] at heq
  replace hok := Lib.hid hok
  replace heq := Lib.hid heq
  go_enter Tryd.func78, Tryd.ntmps78
  go_wp2
  refine wp_region_held_drew (S := fun _ => Hid True) (by kernel_rfl) (Lib.hid trivial) (fun hHeld => ?_)
  refine wpAnyH_take (i := 0) (v := ?_) rfl (by kernel_rfl) (by kernel_rfl) (by kernel_rfl) (fun _ _ _ h => h) (Or.inl ⟨by rfl, ?_⟩) (by assumption) ?_
  rotate_left
  · (intro wS hSw; (try dsimp only at hSw); go_simp; (try with_reducible rfl))
  try simp only [Act.put, List.getElem_toArray, List.getElem_cons_zero, List.setIfInBounds_toArray, List.set_cons_zero, List.set_cons_succ]
  refine wpAnyH_take (i := 1) (v := ?_) rfl (by kernel_rfl) (by kernel_rfl) (by kernel_rfl) (fun _ _ _ h => h) (Or.inl ⟨by rfl, ?_⟩) (by assumption) ?_
  rotate_left
  · (intro wS hSw; (try dsimp only at hSw); go_simp; (try with_reducible rfl))
  try simp only [Act.put, List.getElem_toArray, List.getElem_cons_succ, List.getElem_cons_zero, List.setIfInBounds_toArray, List.set_cons_zero, List.set_cons_succ]
  refine wpAnyH_take (i := 3) (v := ?_) rfl (by kernel_rfl) (by kernel_rfl) (by kernel_rfl) (fun _ _ _ h => h) (Or.inl ⟨by rfl, ?_⟩) (by assumption) ?_
  rotate_left
  · (intro wS hSw; (try dsimp only at hSw); go_simp; (try with_reducible rfl))
  try simp only [Act.put, List.getElem_toArray, List.getElem_cons_succ, List.getElem_cons_zero, List.setIfInBounds_toArray, List.set_cons_zero, List.set_cons_succ]
  refine wpAnyH_take (i := 4) (v := ?_) rfl (by kernel_rfl) (by kernel_rfl) (by kernel_rfl) (fun _ _ _ h => h) (Or.inl ⟨by rfl, ?_⟩) (by assumption) ?_
  rotate_left
  · (intro wS hSw; (try dsimp only at hSw); go_simp; (try with_reducible rfl))
  try simp only [Act.put, List.getElem_toArray, List.getElem_cons_succ, List.getElem_cons_zero, List.setIfInBounds_toArray, List.set_cons_zero, List.set_cons_succ]
  refine wpAnyH_take (i := 6) (v := ?_) rfl (by kernel_rfl) (by kernel_rfl) (by kernel_rfl) (fun _ _ _ h => h) (Or.inl ⟨by rfl, ?_⟩) (by assumption) ?_
  rotate_left
  · (intro wS hSw; (try dsimp only at hSw); go_simp; (try with_reducible rfl))
  try simp only [Act.put, List.getElem_toArray, List.getElem_cons_succ, List.getElem_cons_zero, List.setIfInBounds_toArray, List.set_cons_zero, List.set_cons_succ]
  refine wpAnyH_take (i := 9) (v := ?_) rfl (by kernel_rfl) (by kernel_rfl) (by kernel_rfl) (fun _ _ _ h => h) (Or.inl ⟨by rfl, ?_⟩) (by assumption) ?_
  rotate_left
  · (intro wS hSw; (try dsimp only at hSw); go_simp; (try with_reducible rfl))
  try simp only [Act.put, List.getElem_toArray, List.getElem_cons_succ, List.getElem_cons_zero, List.setIfInBounds_toArray, List.set_cons_zero, List.set_cons_succ]
  refine wpAnyH_take (i := 10) (v := ?_) rfl (by kernel_rfl) (by kernel_rfl) (by kernel_rfl) (fun _ _ _ h => h) (Or.inl ⟨by rfl, ?_⟩) (by assumption) ?_
  rotate_left
  · (intro wS hSw; (try dsimp only at hSw); go_simp; (try with_reducible rfl))
  try simp only [Act.put, List.getElem_toArray, List.getElem_cons_succ, List.getElem_cons_zero, List.setIfInBounds_toArray, List.set_cons_zero, List.set_cons_succ]
  refine wpAnyH_take (i := 7) (v := ?_) rfl (by kernel_rfl) (by kernel_rfl) (by kernel_rfl) (fun _ _ _ h => h) (Or.inl ⟨by rfl, ?_⟩) (by assumption) ?_
  rotate_left
  · (intro wS hSw; (try dsimp only at hSw); go_simp; (try with_reducible rfl))
  try simp only [Act.put, List.getElem_toArray, List.getElem_cons_succ, List.getElem_cons_zero, List.setIfInBounds_toArray, List.set_cons_zero, List.set_cons_succ]
  refine wpAnyH_take (i := 8) (v := ?_) rfl (by kernel_rfl) (by kernel_rfl) (by kernel_rfl) (fun _ _ _ h => h) (Or.inl ⟨by rfl, ?_⟩) (by assumption) ?_
  rotate_left
  · (intro wS hSw; (try dsimp only at hSw); go_simp; (try with_reducible rfl))
  try simp only [Act.put, List.getElem_toArray, List.getElem_cons_succ, List.getElem_cons_zero, List.setIfInBounds_toArray, List.set_cons_zero, List.set_cons_succ]
  refine wpAnyH_take (i := 11) (v := ?_) rfl (by kernel_rfl) (by kernel_rfl) (by kernel_rfl) (fun _ _ _ h => h) (Or.inl ⟨by rfl, ?_⟩) (by assumption) ?_
  rotate_left
  · (intro wS hSw; (try dsimp only at hSw); go_simp; (try with_reducible rfl))
  try simp only [Act.put, List.getElem_toArray, List.getElem_cons_succ, List.getElem_cons_zero, List.setIfInBounds_toArray, List.set_cons_zero, List.set_cons_succ]
  refine wpAnyH_take (i := 12) (v := ?_) rfl (by kernel_rfl) (by kernel_rfl) (by kernel_rfl) (fun _ _ _ h => h) (Or.inl ⟨by rfl, ?_⟩) (by assumption) ?_
  rotate_left
  · (intro wS hSw; (try dsimp only at hSw); go_simp; (try with_reducible rfl))
  try simp only [Act.put, List.getElem_toArray, List.getElem_cons_succ, List.getElem_cons_zero, List.setIfInBounds_toArray, List.set_cons_zero, List.set_cons_succ]
  refine wpAnyH_take (i := 13) (v := ?_) rfl (by kernel_rfl) (by kernel_rfl) (by kernel_rfl) (fun _ _ _ h => h) (Or.inl ⟨by rfl, ?_⟩) (by assumption) ?_
  rotate_left
  · (intro wS hSw; (try dsimp only at hSw); go_simp; (try with_reducible rfl))
  try simp only [Act.put, List.getElem_toArray, List.getElem_cons_succ, List.getElem_cons_zero, List.setIfInBounds_toArray, List.set_cons_zero, List.set_cons_succ]
  refine wpAnyH_take (i := 14) (v := ?_) rfl (by kernel_rfl) (by kernel_rfl) (by kernel_rfl) (fun _ _ _ h => h) (Or.inl ⟨by rfl, ?_⟩) (by assumption) ?_
  rotate_left
  · (intro wS hSw; (try dsimp only at hSw); go_simp; (try with_reducible rfl))
  try simp only [Act.put, List.getElem_toArray, List.getElem_cons_succ, List.getElem_cons_zero, List.setIfInBounds_toArray, List.set_cons_zero, List.set_cons_succ]
  refine wpAnyH_ready (rs := [2, 16]) (by kernel_rfl) (by simp) ?_
  refine AllReadyH.cons rfl (fun K hK => ?_) (AllReadyH.cons rfl (fun K hK => ?_) AllReadyH.nil)
  · simp only [List.getElem_toArray, List.getElem_cons_succ, List.getElem_cons_zero]
    go_simp
    (go_at_call 79; refine (value_any _ _ (by simp; omega)).mono ?_; rintro en wq ⟨rfl, rfl⟩)
    go_wp2_with fail
    refine hK.out _ _ (Lib.hid trivial) (fun hHeld => ?_)
    clear hK K
    try simp only [Act.put, List.getElem_toArray, List.getElem_cons_succ, List.getElem_cons_zero, List.setIfInBounds_toArray, List.set_cons_zero, List.set_cons_succ]
    refine wpAnyH_ready (rs := [5, 16]) (by kernel_rfl) (by simp) ?_
    refine AllReadyH.cons rfl (fun K hK => ?_) (AllReadyH.cons rfl (fun K hK => ?_) AllReadyH.nil)
    · simp only [List.getElem_toArray, List.getElem_cons_succ, List.getElem_cons_zero]
      go_simp
      (go_at_call 79; refine (value_any _ _ (by simp; omega)).mono ?_; rintro en wq ⟨rfl, rfl⟩)
      go_wp2_with fail
      refine hK.out _ _ (Lib.hid trivial) (fun hHeld => ?_)
      clear hK K
      try simp only [Act.put, List.getElem_toArray, List.getElem_cons_succ, List.getElem_cons_zero, List.setIfInBounds_toArray, List.set_cons_zero, List.set_cons_succ]
      refine wpAnyH_take (i := 15) (v := ?_) rfl (by kernel_rfl) (by kernel_rfl) (by kernel_rfl) (fun _ _ _ h => h) (Or.inl ⟨by rfl, ?_⟩) (by assumption) ?_
      rotate_left
      · (intro wS hSw; (try dsimp only at hSw); go_simp; (try with_reducible rfl))
      try simp only [Act.put, List.getElem_toArray, List.getElem_cons_succ, List.getElem_cons_zero, List.setIfInBounds_toArray, List.set_cons_zero, List.set_cons_succ]
      refine wpAnyH_ready (rs := [16]) (by kernel_rfl) (by simp) ?_
      refine AllReadyH.cons rfl (fun K hK => ?_) AllReadyH.nil
      · simp only [List.getElem_toArray, List.getElem_cons_succ, List.getElem_cons_zero]
        go_simp
        refine hK.out _ _ (Lib.hid trivial) (fun hHeld => ?_)
        clear hK K
        try simp only [Act.put, List.getElem_toArray, List.getElem_cons_succ, List.getElem_cons_zero, List.setIfInBounds_toArray, List.set_cons_zero, List.set_cons_succ]
        refine wpAnyH_ready (rs := [17]) (by kernel_rfl) (by simp) ?_
        refine AllReadyH.cons rfl (fun K hK => ?_) AllReadyH.nil
        · simp only [List.getElem_toArray, List.getElem_cons_succ, List.getElem_cons_zero]
          go_simp
          refine hK.out _ _ (Lib.hid trivial) (fun hHeld => ?_)
          clear hK K
          try simp only [Act.put, List.getElem_toArray, List.getElem_cons_succ, List.getElem_cons_zero, List.setIfInBounds_toArray, List.set_cons_zero, List.set_cons_succ]
          refine wpAnyH_done (by kernel_rfl) ?_ _
          go_wp2_with fail
          refine (put_yes _ _ _ _ _ hok.out).mono ?_
          rintro en wq ⟨rfl, hb⟩
          have hb1 : wq.heap[w.heap.size + 1]? = some (.cells #[.int .i64 (val (List.take 4 b)), .int .i64 (val (List.take 2 (List.drop 4 b))), .bool ((x6.toNat : Int) == 2), .string (mk (List.take x7.toNat (List.drop 8 b)))] 121 (0, 0)) := (hb.block _ (by simp)).trans (cells_two _ _ _)
          have hb0 : wq.heap[w.heap.size]? = some (.cells #[.int .i64 0, .int .i64 0, .bool false, .string ⟨#[]⟩] 121 (0, 0)) := (hb.block _ (by simp; omega)).trans (cells_one _ _ _)
          have c10 := cell_of (i := 0) hb1 rfl
          have c11 := cell_of (i := 1) hb1 rfl
          have c12 := cell_of (i := 2) hb1 rfl
          have c13 := cell_of (i := 3) hb1 rfl
          have c00 := cell_of (i := 0) hb0 rfl
          have c01 := cell_of (i := 1) hb0 rfl
          have c02 := cell_of (i := 2) hb0 rfl
          have c03 := cell_of (i := 3) hb0 rfl
          have f00 := free_of (i := 0) hb0
          have f01 := free_of (i := 1) hb0
          have f02 := free_of (i := 2) hb0
          have f03 := free_of (i := 3) hb0
          have hbb := Lib.hid (below_two hb)
          clear hb hb0 hb1
          have hcmp : (enc (val (List.take 4 b)) (val (List.take 2 (List.drop 4 b))) ((x6.toNat : Int) == 2) (List.take x7.toNat (List.drop 8 b)) == b) = true := by rw [heq.out, beq_self_eq_true]
          go_wp2
          refine bodyPost_ret (v := .tuple #[.agg #[.int .i64 (val (List.take 4 b)), .int .i64 (val (List.take 2 (List.drop 4 b))), .bool ((x6.toNat : Int) == 2), .string (mk (List.take x7.toNat (List.drop 8 b)))], .bool true]) (by simp [results, Tryd.results78, go_sem, c00, c01, c02, c03]) rfl ⟨by rw [hx7.out, hx6.out], ?_⟩
          exact ((((hbb.out.setCell (Nat.le_refl _) _).setCell (Nat.le_refl _) _).setCell (Nat.le_refl _) _).setCell (Nat.le_refl _) _)
    · simp only [List.getElem_toArray, List.getElem_cons_succ, List.getElem_cons_zero]
      go_simp
      refine hK.out _ _ (Lib.hid trivial) (fun hHeld => ?_)
      clear hK K
      try simp only [Act.put, List.getElem_toArray, List.getElem_cons_succ, List.getElem_cons_zero, List.setIfInBounds_toArray, List.set_cons_zero, List.set_cons_succ]
      refine wpAnyH_ready (rs := [5]) (by kernel_rfl) (by simp) ?_
      refine AllReadyH.cons rfl (fun K hK => ?_) AllReadyH.nil
      · simp only [List.getElem_toArray, List.getElem_cons_succ, List.getElem_cons_zero]
        go_simp
        (go_at_call 79; refine (value_any _ _ (by simp; omega)).mono ?_; rintro en wq ⟨rfl, rfl⟩)
        go_wp2_with fail
        refine hK.out _ _ (Lib.hid trivial) (fun hHeld => ?_)
        clear hK K
        try simp only [Act.put, List.getElem_toArray, List.getElem_cons_succ, List.getElem_cons_zero, List.setIfInBounds_toArray, List.set_cons_zero, List.set_cons_succ]
        refine wpAnyH_take (i := 15) (v := ?_) rfl (by kernel_rfl) (by kernel_rfl) (by kernel_rfl) (fun _ _ _ h => h) (Or.inl ⟨by rfl, ?_⟩) (by assumption) ?_
        rotate_left
        · (intro wS hSw; (try dsimp only at hSw); go_simp; (try with_reducible rfl))
        try simp only [Act.put, List.getElem_toArray, List.getElem_cons_succ, List.getElem_cons_zero, List.setIfInBounds_toArray, List.set_cons_zero, List.set_cons_succ]
        refine wpAnyH_ready (rs := [17]) (by kernel_rfl) (by simp) ?_
        refine AllReadyH.cons rfl (fun K hK => ?_) AllReadyH.nil
        · simp only [List.getElem_toArray, List.getElem_cons_succ, List.getElem_cons_zero]
          go_simp
          refine hK.out _ _ (Lib.hid trivial) (fun hHeld => ?_)
          clear hK K
          try simp only [Act.put, List.getElem_toArray, List.getElem_cons_succ, List.getElem_cons_zero, List.setIfInBounds_toArray, List.set_cons_zero, List.set_cons_succ]
          refine wpAnyH_done (by kernel_rfl) ?_ _
          go_wp2_with fail
          refine (put_yes _ _ _ _ _ hok.out).mono ?_
          rintro en wq ⟨rfl, hb⟩
          have hb1 : wq.heap[w.heap.size + 1]? = some (.cells #[.int .i64 (val (List.take 4 b)), .int .i64 (val (List.take 2 (List.drop 4 b))), .bool ((x6.toNat : Int) == 2), .string (mk (List.take x7.toNat (List.drop 8 b)))] 121 (0, 0)) := (hb.block _ (by simp)).trans (cells_two _ _ _)
          have hb0 : wq.heap[w.heap.size]? = some (.cells #[.int .i64 0, .int .i64 0, .bool false, .string ⟨#[]⟩] 121 (0, 0)) := (hb.block _ (by simp; omega)).trans (cells_one _ _ _)
          have c10 := cell_of (i := 0) hb1 rfl
          have c11 := cell_of (i := 1) hb1 rfl
          have c12 := cell_of (i := 2) hb1 rfl
          have c13 := cell_of (i := 3) hb1 rfl
          have c00 := cell_of (i := 0) hb0 rfl
          have c01 := cell_of (i := 1) hb0 rfl
          have c02 := cell_of (i := 2) hb0 rfl
          have c03 := cell_of (i := 3) hb0 rfl
          have f00 := free_of (i := 0) hb0
          have f01 := free_of (i := 1) hb0
          have f02 := free_of (i := 2) hb0
          have f03 := free_of (i := 3) hb0
          have hbb := Lib.hid (below_two hb)
          clear hb hb0 hb1
          have hcmp : (enc (val (List.take 4 b)) (val (List.take 2 (List.drop 4 b))) ((x6.toNat : Int) == 2) (List.take x7.toNat (List.drop 8 b)) == b) = true := by rw [heq.out, beq_self_eq_true]
          go_wp2
          refine bodyPost_ret (v := .tuple #[.agg #[.int .i64 (val (List.take 4 b)), .int .i64 (val (List.take 2 (List.drop 4 b))), .bool ((x6.toNat : Int) == 2), .string (mk (List.take x7.toNat (List.drop 8 b)))], .bool true]) (by simp [results, Tryd.results78, go_sem, c00, c01, c02, c03]) rfl ⟨by rw [hx7.out, hx6.out], ?_⟩
          exact ((((hbb.out.setCell (Nat.le_refl _) _).setCell (Nat.le_refl _) _).setCell (Nat.le_refl _) _).setCell (Nat.le_refl _) _)
  · simp only [List.getElem_toArray, List.getElem_cons_succ, List.getElem_cons_zero]
    go_simp
    refine hK.out _ _ (Lib.hid trivial) (fun hHeld => ?_)
    clear hK K
    try simp only [Act.put, List.getElem_toArray, List.getElem_cons_succ, List.getElem_cons_zero, List.setIfInBounds_toArray, List.set_cons_zero, List.set_cons_succ]
    refine wpAnyH_ready (rs := [2]) (by kernel_rfl) (by simp) ?_
    refine AllReadyH.cons rfl (fun K hK => ?_) AllReadyH.nil
    · simp only [List.getElem_toArray, List.getElem_cons_succ, List.getElem_cons_zero]
      go_simp
      (go_at_call 79; refine (value_any _ _ (by simp; omega)).mono ?_; rintro en wq ⟨rfl, rfl⟩)
      go_wp2_with fail
      refine hK.out _ _ (Lib.hid trivial) (fun hHeld => ?_)
      clear hK K
      try simp only [Act.put, List.getElem_toArray, List.getElem_cons_succ, List.getElem_cons_zero, List.setIfInBounds_toArray, List.set_cons_zero, List.set_cons_succ]
      refine wpAnyH_ready (rs := [5]) (by kernel_rfl) (by simp) ?_
      refine AllReadyH.cons rfl (fun K hK => ?_) AllReadyH.nil
      · simp only [List.getElem_toArray, List.getElem_cons_succ, List.getElem_cons_zero]
        go_simp
        (go_at_call 79; refine (value_any _ _ (by simp; omega)).mono ?_; rintro en wq ⟨rfl, rfl⟩)
        go_wp2_with fail
        refine hK.out _ _ (Lib.hid trivial) (fun hHeld => ?_)
        clear hK K
        try simp only [Act.put, List.getElem_toArray, List.getElem_cons_succ, List.getElem_cons_zero, List.setIfInBounds_toArray, List.set_cons_zero, List.set_cons_succ]
        refine wpAnyH_take (i := 15) (v := ?_) rfl (by kernel_rfl) (by kernel_rfl) (by kernel_rfl) (fun _ _ _ h => h) (Or.inl ⟨by rfl, ?_⟩) (by assumption) ?_
        rotate_left
        · (intro wS hSw; (try dsimp only at hSw); go_simp; (try with_reducible rfl))
        try simp only [Act.put, List.getElem_toArray, List.getElem_cons_succ, List.getElem_cons_zero, List.setIfInBounds_toArray, List.set_cons_zero, List.set_cons_succ]
        refine wpAnyH_ready (rs := [17]) (by kernel_rfl) (by simp) ?_
        refine AllReadyH.cons rfl (fun K hK => ?_) AllReadyH.nil
        · simp only [List.getElem_toArray, List.getElem_cons_succ, List.getElem_cons_zero]
          go_simp
          refine hK.out _ _ (Lib.hid trivial) (fun hHeld => ?_)
          clear hK K
          try simp only [Act.put, List.getElem_toArray, List.getElem_cons_succ, List.getElem_cons_zero, List.setIfInBounds_toArray, List.set_cons_zero, List.set_cons_succ]
          refine wpAnyH_done (by kernel_rfl) ?_ _
          go_wp2_with fail
          refine (put_yes _ _ _ _ _ hok.out).mono ?_
          rintro en wq ⟨rfl, hb⟩
          have hb1 : wq.heap[w.heap.size + 1]? = some (.cells #[.int .i64 (val (List.take 4 b)), .int .i64 (val (List.take 2 (List.drop 4 b))), .bool ((x6.toNat : Int) == 2), .string (mk (List.take x7.toNat (List.drop 8 b)))] 121 (0, 0)) := (hb.block _ (by simp)).trans (cells_two _ _ _)
          have hb0 : wq.heap[w.heap.size]? = some (.cells #[.int .i64 0, .int .i64 0, .bool false, .string ⟨#[]⟩] 121 (0, 0)) := (hb.block _ (by simp; omega)).trans (cells_one _ _ _)
          have c10 := cell_of (i := 0) hb1 rfl
          have c11 := cell_of (i := 1) hb1 rfl
          have c12 := cell_of (i := 2) hb1 rfl
          have c13 := cell_of (i := 3) hb1 rfl
          have c00 := cell_of (i := 0) hb0 rfl
          have c01 := cell_of (i := 1) hb0 rfl
          have c02 := cell_of (i := 2) hb0 rfl
          have c03 := cell_of (i := 3) hb0 rfl
          have f00 := free_of (i := 0) hb0
          have f01 := free_of (i := 1) hb0
          have f02 := free_of (i := 2) hb0
          have f03 := free_of (i := 3) hb0
          have hbb := Lib.hid (below_two hb)
          clear hb hb0 hb1
          have hcmp : (enc (val (List.take 4 b)) (val (List.take 2 (List.drop 4 b))) ((x6.toNat : Int) == 2) (List.take x7.toNat (List.drop 8 b)) == b) = true := by rw [heq.out, beq_self_eq_true]
          go_wp2
          refine bodyPost_ret (v := .tuple #[.agg #[.int .i64 (val (List.take 4 b)), .int .i64 (val (List.take 2 (List.drop 4 b))), .bool ((x6.toNat : Int) == 2), .string (mk (List.take x7.toNat (List.drop 8 b)))], .bool true]) (by simp [results, Tryd.results78, go_sem, c00, c01, c02, c03]) rfl ⟨by rw [hx7.out, hx6.out], ?_⟩
          exact ((((hbb.out.setCell (Nat.le_refl _) _).setCell (Nat.le_refl _) _).setCell (Nat.le_refl _) _).setCell (Nat.le_refl _) _)
set_option maxHeartbeats 1600000 in
theorem get_no1 (b : List UInt8) (w : World) (h : b.length = 64) (h7 : ((b.getD 7 0).toNat : Int) ≤ 56) (hok : secOk (val (b.take 4)) (val ((b.drop 4).take 2)) ((b.drop 8).take (b.getD 7 0).toNat) = false) :
    Calls Tryd.prog 78 #[.string (mk b)] w fun en w' => en = .returned (.tuple #[.agg #[.int .i64 0, .int .i64 0, .bool false, .string ⟨#[]⟩], .bool false]) ∧ Below w.heap.size w w' := by
  have h64 : 64 ≤ b.length := by omega
  have h64' : b.length ≤ 64 := by omega
  obtain ⟨x6, hx6⟩ : ∃ x, x = b.getD 6 0 := ⟨_, rfl⟩
  obtain ⟨x7, hx7⟩ : ∃ x, x = b.getD 7 0 := ⟨_, rfl⟩
  rw [← hx7] at h7
  have g6 : ∀ h : 6 < (mk b).size, (mk b)[6] = x6 := fun h => by rw [mk_get, hx6]
  have g7 : ∀ h : 7 < (mk b).size, (mk b)[7] = x7 := fun h => by rw [mk_get, hx7]
  replace hx6 := Lib.hid hx6
  replace hx7 := Lib.hid hx7
  have hne : ((b.length : Int) != 64) = false := by rw [bne_eq_false_iff_eq]; omega
  have hsl : ∀ w, (Instr.slice 9 (.string (mk b)) (some (.int .i64 8)) (some (.int .i64 (8 + (x7.toNat : Int)))) none).run Tryd.prog w = .ok (.string (mk ((b.drop 8).take x7.toNat))) w := fun w => by
    rw [run_slice_string w 9 (mk b) .i64 .i64 8 (8 + (x7.toNat : Int)) Tryd.underlying9 (by omega) (by omega) (by rw [mk_size]; omega), mk_ext, show ((8 : Int) + x7.toNat).toNat - (8 : Int).toNat = x7.toNat by omega]
    rfl
  have hw7 : IntKind.i64.wrap (x7.toNat : Int) = x7.toNat := IntWalk.i64_in _ (by omega)
  have i61 : (6 : Int) < b.length := by omega
  have i71 : (7 : Int) < b.length := by omega
  have i4 : (4 : Int) ≤ b.length := by omega
  have i6 : (6 : Int) ≤ b.length := by omega
  have i8 : (8 : Int) + x7.toNat ≤ b.length := by omega
  have i8' : (8 : Int) + x7.toNat ≤ 64 := by omega
  have hw8 : IntKind.i64.wrap ((8 : Int) + x7.toNat) = 8 + x7.toNat := IntWalk.i64_in _ (by omega)
  replace h := Lib.hid h
  rw [← hx7.out] at hok
  replace hok := Lib.hid hok
  go_enter Tryd.func78, Tryd.ntmps78
  go_wp2
  refine wp_region_held_drew (S := fun _ => Hid True) (by kernel_rfl) (Lib.hid trivial) (fun hHeld => ?_)
  refine wpAnyH_take (i := 0) (v := ?_) rfl (by kernel_rfl) (by kernel_rfl) (by kernel_rfl) (fun _ _ _ h => h) (Or.inl ⟨by rfl, ?_⟩) (by assumption) ?_
  rotate_left
  · (intro wS hSw; (try dsimp only at hSw); go_simp; (try with_reducible rfl))
  try simp only [Act.put, List.getElem_toArray, List.getElem_cons_zero, List.setIfInBounds_toArray, List.set_cons_zero, List.set_cons_succ]
  refine wpAnyH_take (i := 1) (v := ?_) rfl (by kernel_rfl) (by kernel_rfl) (by kernel_rfl) (fun _ _ _ h => h) (Or.inl ⟨by rfl, ?_⟩) (by assumption) ?_
  rotate_left
  · (intro wS hSw; (try dsimp only at hSw); go_simp; (try with_reducible rfl))
  try simp only [Act.put, List.getElem_toArray, List.getElem_cons_succ, List.getElem_cons_zero, List.setIfInBounds_toArray, List.set_cons_zero, List.set_cons_succ]
  refine wpAnyH_take (i := 3) (v := ?_) rfl (by kernel_rfl) (by kernel_rfl) (by kernel_rfl) (fun _ _ _ h => h) (Or.inl ⟨by rfl, ?_⟩) (by assumption) ?_
  rotate_left
  · (intro wS hSw; (try dsimp only at hSw); go_simp; (try with_reducible rfl))
  try simp only [Act.put, List.getElem_toArray, List.getElem_cons_succ, List.getElem_cons_zero, List.setIfInBounds_toArray, List.set_cons_zero, List.set_cons_succ]
  refine wpAnyH_take (i := 4) (v := ?_) rfl (by kernel_rfl) (by kernel_rfl) (by kernel_rfl) (fun _ _ _ h => h) (Or.inl ⟨by rfl, ?_⟩) (by assumption) ?_
  rotate_left
  · (intro wS hSw; (try dsimp only at hSw); go_simp; (try with_reducible rfl))
  try simp only [Act.put, List.getElem_toArray, List.getElem_cons_succ, List.getElem_cons_zero, List.setIfInBounds_toArray, List.set_cons_zero, List.set_cons_succ]
  refine wpAnyH_take (i := 6) (v := ?_) rfl (by kernel_rfl) (by kernel_rfl) (by kernel_rfl) (fun _ _ _ h => h) (Or.inl ⟨by rfl, ?_⟩) (by assumption) ?_
  rotate_left
  · (intro wS hSw; (try dsimp only at hSw); go_simp; (try with_reducible rfl))
  try simp only [Act.put, List.getElem_toArray, List.getElem_cons_succ, List.getElem_cons_zero, List.setIfInBounds_toArray, List.set_cons_zero, List.set_cons_succ]
  refine wpAnyH_take (i := 9) (v := ?_) rfl (by kernel_rfl) (by kernel_rfl) (by kernel_rfl) (fun _ _ _ h => h) (Or.inl ⟨by rfl, ?_⟩) (by assumption) ?_
  rotate_left
  · (intro wS hSw; (try dsimp only at hSw); go_simp; (try with_reducible rfl))
  try simp only [Act.put, List.getElem_toArray, List.getElem_cons_succ, List.getElem_cons_zero, List.setIfInBounds_toArray, List.set_cons_zero, List.set_cons_succ]
  refine wpAnyH_take (i := 10) (v := ?_) rfl (by kernel_rfl) (by kernel_rfl) (by kernel_rfl) (fun _ _ _ h => h) (Or.inl ⟨by rfl, ?_⟩) (by assumption) ?_
  rotate_left
  · (intro wS hSw; (try dsimp only at hSw); go_simp; (try with_reducible rfl))
  try simp only [Act.put, List.getElem_toArray, List.getElem_cons_succ, List.getElem_cons_zero, List.setIfInBounds_toArray, List.set_cons_zero, List.set_cons_succ]
  refine wpAnyH_take (i := 7) (v := ?_) rfl (by kernel_rfl) (by kernel_rfl) (by kernel_rfl) (fun _ _ _ h => h) (Or.inl ⟨by rfl, ?_⟩) (by assumption) ?_
  rotate_left
  · (intro wS hSw; (try dsimp only at hSw); go_simp; (try with_reducible rfl))
  try simp only [Act.put, List.getElem_toArray, List.getElem_cons_succ, List.getElem_cons_zero, List.setIfInBounds_toArray, List.set_cons_zero, List.set_cons_succ]
  refine wpAnyH_take (i := 8) (v := ?_) rfl (by kernel_rfl) (by kernel_rfl) (by kernel_rfl) (fun _ _ _ h => h) (Or.inl ⟨by rfl, ?_⟩) (by assumption) ?_
  rotate_left
  · (intro wS hSw; (try dsimp only at hSw); go_simp; (try with_reducible rfl))
  try simp only [Act.put, List.getElem_toArray, List.getElem_cons_succ, List.getElem_cons_zero, List.setIfInBounds_toArray, List.set_cons_zero, List.set_cons_succ]
  refine wpAnyH_take (i := 11) (v := ?_) rfl (by kernel_rfl) (by kernel_rfl) (by kernel_rfl) (fun _ _ _ h => h) (Or.inl ⟨by rfl, ?_⟩) (by assumption) ?_
  rotate_left
  · (intro wS hSw; (try dsimp only at hSw); go_simp; (try with_reducible rfl))
  try simp only [Act.put, List.getElem_toArray, List.getElem_cons_succ, List.getElem_cons_zero, List.setIfInBounds_toArray, List.set_cons_zero, List.set_cons_succ]
  refine wpAnyH_take (i := 12) (v := ?_) rfl (by kernel_rfl) (by kernel_rfl) (by kernel_rfl) (fun _ _ _ h => h) (Or.inl ⟨by rfl, ?_⟩) (by assumption) ?_
  rotate_left
  · (intro wS hSw; (try dsimp only at hSw); go_simp; (try with_reducible rfl))
  try simp only [Act.put, List.getElem_toArray, List.getElem_cons_succ, List.getElem_cons_zero, List.setIfInBounds_toArray, List.set_cons_zero, List.set_cons_succ]
  refine wpAnyH_take (i := 13) (v := ?_) rfl (by kernel_rfl) (by kernel_rfl) (by kernel_rfl) (fun _ _ _ h => h) (Or.inl ⟨by rfl, ?_⟩) (by assumption) ?_
  rotate_left
  · (intro wS hSw; (try dsimp only at hSw); go_simp; (try with_reducible rfl))
  try simp only [Act.put, List.getElem_toArray, List.getElem_cons_succ, List.getElem_cons_zero, List.setIfInBounds_toArray, List.set_cons_zero, List.set_cons_succ]
  refine wpAnyH_take (i := 14) (v := ?_) rfl (by kernel_rfl) (by kernel_rfl) (by kernel_rfl) (fun _ _ _ h => h) (Or.inl ⟨by rfl, ?_⟩) (by assumption) ?_
  rotate_left
  · (intro wS hSw; (try dsimp only at hSw); go_simp; (try with_reducible rfl))
  try simp only [Act.put, List.getElem_toArray, List.getElem_cons_succ, List.getElem_cons_zero, List.setIfInBounds_toArray, List.set_cons_zero, List.set_cons_succ]
  refine wpAnyH_ready (rs := [2, 16]) (by kernel_rfl) (by simp) ?_
  refine AllReadyH.cons rfl (fun K hK => ?_) (AllReadyH.cons rfl (fun K hK => ?_) AllReadyH.nil)
  · simp only [List.getElem_toArray, List.getElem_cons_succ, List.getElem_cons_zero]
    go_simp
    (go_at_call 79; refine (value_any _ _ (by simp; omega)).mono ?_; rintro en wq ⟨rfl, rfl⟩)
    go_wp2_with fail
    refine hK.out _ _ (Lib.hid trivial) (fun hHeld => ?_)
    clear hK K
    try simp only [Act.put, List.getElem_toArray, List.getElem_cons_succ, List.getElem_cons_zero, List.setIfInBounds_toArray, List.set_cons_zero, List.set_cons_succ]
    refine wpAnyH_ready (rs := [5, 16]) (by kernel_rfl) (by simp) ?_
    refine AllReadyH.cons rfl (fun K hK => ?_) (AllReadyH.cons rfl (fun K hK => ?_) AllReadyH.nil)
    · simp only [List.getElem_toArray, List.getElem_cons_succ, List.getElem_cons_zero]
      go_simp
      (go_at_call 79; refine (value_any _ _ (by simp; omega)).mono ?_; rintro en wq ⟨rfl, rfl⟩)
      go_wp2_with fail
      refine hK.out _ _ (Lib.hid trivial) (fun hHeld => ?_)
      clear hK K
      try simp only [Act.put, List.getElem_toArray, List.getElem_cons_succ, List.getElem_cons_zero, List.setIfInBounds_toArray, List.set_cons_zero, List.set_cons_succ]
      refine wpAnyH_take (i := 15) (v := ?_) rfl (by kernel_rfl) (by kernel_rfl) (by kernel_rfl) (fun _ _ _ h => h) (Or.inl ⟨by rfl, ?_⟩) (by assumption) ?_
      rotate_left
      · (intro wS hSw; (try dsimp only at hSw); go_simp; (try with_reducible rfl))
      try simp only [Act.put, List.getElem_toArray, List.getElem_cons_succ, List.getElem_cons_zero, List.setIfInBounds_toArray, List.set_cons_zero, List.set_cons_succ]
      refine wpAnyH_ready (rs := [16]) (by kernel_rfl) (by simp) ?_
      refine AllReadyH.cons rfl (fun K hK => ?_) AllReadyH.nil
      · simp only [List.getElem_toArray, List.getElem_cons_succ, List.getElem_cons_zero]
        go_simp
        refine hK.out _ _ (Lib.hid trivial) (fun hHeld => ?_)
        clear hK K
        try simp only [Act.put, List.getElem_toArray, List.getElem_cons_succ, List.getElem_cons_zero, List.setIfInBounds_toArray, List.set_cons_zero, List.set_cons_succ]
        refine wpAnyH_ready (rs := [17]) (by kernel_rfl) (by simp) ?_
        refine AllReadyH.cons rfl (fun K hK => ?_) AllReadyH.nil
        · simp only [List.getElem_toArray, List.getElem_cons_succ, List.getElem_cons_zero]
          go_simp
          refine hK.out _ _ (Lib.hid trivial) (fun hHeld => ?_)
          clear hK K
          try simp only [Act.put, List.getElem_toArray, List.getElem_cons_succ, List.getElem_cons_zero, List.setIfInBounds_toArray, List.set_cons_zero, List.set_cons_succ]
          refine wpAnyH_done (by kernel_rfl) ?_ _
          go_wp2_with fail
          refine (put_no _ _ _ _ _ (by simp; omega) hok.out).mono ?_
          rintro en wq ⟨rfl, hb⟩
          have hb1 : wq.heap[w.heap.size + 1]? = some (.cells #[.int .i64 (val (List.take 4 b)), .int .i64 (val (List.take 2 (List.drop 4 b))), .bool ((x6.toNat : Int) == 2), .string (mk (List.take x7.toNat (List.drop 8 b)))] 121 (0, 0)) := (hb.block _ (by simp)).trans (cells_two _ _ _)
          have hb0 : wq.heap[w.heap.size]? = some (.cells #[.int .i64 0, .int .i64 0, .bool false, .string ⟨#[]⟩] 121 (0, 0)) := (hb.block _ (by simp; omega)).trans (cells_one _ _ _)
          have c10 := cell_of (i := 0) hb1 rfl
          have c11 := cell_of (i := 1) hb1 rfl
          have c12 := cell_of (i := 2) hb1 rfl
          have c13 := cell_of (i := 3) hb1 rfl
          have c00 := cell_of (i := 0) hb0 rfl
          have c01 := cell_of (i := 1) hb0 rfl
          have c02 := cell_of (i := 2) hb0 rfl
          have c03 := cell_of (i := 3) hb0 rfl
          have f00 := free_of (i := 0) hb0
          have f01 := free_of (i := 1) hb0
          have f02 := free_of (i := 2) hb0
          have f03 := free_of (i := 3) hb0
          have hbb := Lib.hid (below_two hb)
          clear hb hb0 hb1
          skip
          go_wp2
          refine bodyPost_ret (v := .tuple #[.agg #[.int .i64 0, .int .i64 0, .bool false, .string ⟨#[]⟩], .bool false]) (by simp [results, Tryd.results78, go_sem, c00, c01, c02, c03]) rfl ⟨rfl, ?_⟩
          exact ((((hbb.out.setCell (Nat.le_refl _) _).setCell (Nat.le_refl _) _).setCell (Nat.le_refl _) _).setCell (Nat.le_refl _) _)
    · simp only [List.getElem_toArray, List.getElem_cons_succ, List.getElem_cons_zero]
      go_simp
      refine hK.out _ _ (Lib.hid trivial) (fun hHeld => ?_)
      clear hK K
      try simp only [Act.put, List.getElem_toArray, List.getElem_cons_succ, List.getElem_cons_zero, List.setIfInBounds_toArray, List.set_cons_zero, List.set_cons_succ]
      refine wpAnyH_ready (rs := [5]) (by kernel_rfl) (by simp) ?_
      refine AllReadyH.cons rfl (fun K hK => ?_) AllReadyH.nil
      · simp only [List.getElem_toArray, List.getElem_cons_succ, List.getElem_cons_zero]
        go_simp
        (go_at_call 79; refine (value_any _ _ (by simp; omega)).mono ?_; rintro en wq ⟨rfl, rfl⟩)
        go_wp2_with fail
        refine hK.out _ _ (Lib.hid trivial) (fun hHeld => ?_)
        clear hK K
        try simp only [Act.put, List.getElem_toArray, List.getElem_cons_succ, List.getElem_cons_zero, List.setIfInBounds_toArray, List.set_cons_zero, List.set_cons_succ]
        refine wpAnyH_take (i := 15) (v := ?_) rfl (by kernel_rfl) (by kernel_rfl) (by kernel_rfl) (fun _ _ _ h => h) (Or.inl ⟨by rfl, ?_⟩) (by assumption) ?_
        rotate_left
        · (intro wS hSw; (try dsimp only at hSw); go_simp; (try with_reducible rfl))
        try simp only [Act.put, List.getElem_toArray, List.getElem_cons_succ, List.getElem_cons_zero, List.setIfInBounds_toArray, List.set_cons_zero, List.set_cons_succ]
        refine wpAnyH_ready (rs := [17]) (by kernel_rfl) (by simp) ?_
        refine AllReadyH.cons rfl (fun K hK => ?_) AllReadyH.nil
        · simp only [List.getElem_toArray, List.getElem_cons_succ, List.getElem_cons_zero]
          go_simp
          refine hK.out _ _ (Lib.hid trivial) (fun hHeld => ?_)
          clear hK K
          try simp only [Act.put, List.getElem_toArray, List.getElem_cons_succ, List.getElem_cons_zero, List.setIfInBounds_toArray, List.set_cons_zero, List.set_cons_succ]
          refine wpAnyH_done (by kernel_rfl) ?_ _
          go_wp2_with fail
          refine (put_no _ _ _ _ _ (by simp; omega) hok.out).mono ?_
          rintro en wq ⟨rfl, hb⟩
          have hb1 : wq.heap[w.heap.size + 1]? = some (.cells #[.int .i64 (val (List.take 4 b)), .int .i64 (val (List.take 2 (List.drop 4 b))), .bool ((x6.toNat : Int) == 2), .string (mk (List.take x7.toNat (List.drop 8 b)))] 121 (0, 0)) := (hb.block _ (by simp)).trans (cells_two _ _ _)
          have hb0 : wq.heap[w.heap.size]? = some (.cells #[.int .i64 0, .int .i64 0, .bool false, .string ⟨#[]⟩] 121 (0, 0)) := (hb.block _ (by simp; omega)).trans (cells_one _ _ _)
          have c10 := cell_of (i := 0) hb1 rfl
          have c11 := cell_of (i := 1) hb1 rfl
          have c12 := cell_of (i := 2) hb1 rfl
          have c13 := cell_of (i := 3) hb1 rfl
          have c00 := cell_of (i := 0) hb0 rfl
          have c01 := cell_of (i := 1) hb0 rfl
          have c02 := cell_of (i := 2) hb0 rfl
          have c03 := cell_of (i := 3) hb0 rfl
          have f00 := free_of (i := 0) hb0
          have f01 := free_of (i := 1) hb0
          have f02 := free_of (i := 2) hb0
          have f03 := free_of (i := 3) hb0
          have hbb := Lib.hid (below_two hb)
          clear hb hb0 hb1
          skip
          go_wp2
          refine bodyPost_ret (v := .tuple #[.agg #[.int .i64 0, .int .i64 0, .bool false, .string ⟨#[]⟩], .bool false]) (by simp [results, Tryd.results78, go_sem, c00, c01, c02, c03]) rfl ⟨rfl, ?_⟩
          exact ((((hbb.out.setCell (Nat.le_refl _) _).setCell (Nat.le_refl _) _).setCell (Nat.le_refl _) _).setCell (Nat.le_refl _) _)
  · simp only [List.getElem_toArray, List.getElem_cons_succ, List.getElem_cons_zero]
    go_simp
    refine hK.out _ _ (Lib.hid trivial) (fun hHeld => ?_)
    clear hK K
    try simp only [Act.put, List.getElem_toArray, List.getElem_cons_succ, List.getElem_cons_zero, List.setIfInBounds_toArray, List.set_cons_zero, List.set_cons_succ]
    refine wpAnyH_ready (rs := [2]) (by kernel_rfl) (by simp) ?_
    refine AllReadyH.cons rfl (fun K hK => ?_) AllReadyH.nil
    · simp only [List.getElem_toArray, List.getElem_cons_succ, List.getElem_cons_zero]
      go_simp
      (go_at_call 79; refine (value_any _ _ (by simp; omega)).mono ?_; rintro en wq ⟨rfl, rfl⟩)
      go_wp2_with fail
      refine hK.out _ _ (Lib.hid trivial) (fun hHeld => ?_)
      clear hK K
      try simp only [Act.put, List.getElem_toArray, List.getElem_cons_succ, List.getElem_cons_zero, List.setIfInBounds_toArray, List.set_cons_zero, List.set_cons_succ]
      refine wpAnyH_ready (rs := [5]) (by kernel_rfl) (by simp) ?_
      refine AllReadyH.cons rfl (fun K hK => ?_) AllReadyH.nil
      · simp only [List.getElem_toArray, List.getElem_cons_succ, List.getElem_cons_zero]
        go_simp
        (go_at_call 79; refine (value_any _ _ (by simp; omega)).mono ?_; rintro en wq ⟨rfl, rfl⟩)
        go_wp2_with fail
        refine hK.out _ _ (Lib.hid trivial) (fun hHeld => ?_)
        clear hK K
        try simp only [Act.put, List.getElem_toArray, List.getElem_cons_succ, List.getElem_cons_zero, List.setIfInBounds_toArray, List.set_cons_zero, List.set_cons_succ]
        refine wpAnyH_take (i := 15) (v := ?_) rfl (by kernel_rfl) (by kernel_rfl) (by kernel_rfl) (fun _ _ _ h => h) (Or.inl ⟨by rfl, ?_⟩) (by assumption) ?_
        rotate_left
        · (intro wS hSw; (try dsimp only at hSw); go_simp; (try with_reducible rfl))
        try simp only [Act.put, List.getElem_toArray, List.getElem_cons_succ, List.getElem_cons_zero, List.setIfInBounds_toArray, List.set_cons_zero, List.set_cons_succ]
        refine wpAnyH_ready (rs := [17]) (by kernel_rfl) (by simp) ?_
        refine AllReadyH.cons rfl (fun K hK => ?_) AllReadyH.nil
        · simp only [List.getElem_toArray, List.getElem_cons_succ, List.getElem_cons_zero]
          go_simp
          refine hK.out _ _ (Lib.hid trivial) (fun hHeld => ?_)
          clear hK K
          try simp only [Act.put, List.getElem_toArray, List.getElem_cons_succ, List.getElem_cons_zero, List.setIfInBounds_toArray, List.set_cons_zero, List.set_cons_succ]
          refine wpAnyH_done (by kernel_rfl) ?_ _
          go_wp2_with fail
          refine (put_no _ _ _ _ _ (by simp; omega) hok.out).mono ?_
          rintro en wq ⟨rfl, hb⟩
          have hb1 : wq.heap[w.heap.size + 1]? = some (.cells #[.int .i64 (val (List.take 4 b)), .int .i64 (val (List.take 2 (List.drop 4 b))), .bool ((x6.toNat : Int) == 2), .string (mk (List.take x7.toNat (List.drop 8 b)))] 121 (0, 0)) := (hb.block _ (by simp)).trans (cells_two _ _ _)
          have hb0 : wq.heap[w.heap.size]? = some (.cells #[.int .i64 0, .int .i64 0, .bool false, .string ⟨#[]⟩] 121 (0, 0)) := (hb.block _ (by simp; omega)).trans (cells_one _ _ _)
          have c10 := cell_of (i := 0) hb1 rfl
          have c11 := cell_of (i := 1) hb1 rfl
          have c12 := cell_of (i := 2) hb1 rfl
          have c13 := cell_of (i := 3) hb1 rfl
          have c00 := cell_of (i := 0) hb0 rfl
          have c01 := cell_of (i := 1) hb0 rfl
          have c02 := cell_of (i := 2) hb0 rfl
          have c03 := cell_of (i := 3) hb0 rfl
          have f00 := free_of (i := 0) hb0
          have f01 := free_of (i := 1) hb0
          have f02 := free_of (i := 2) hb0
          have f03 := free_of (i := 3) hb0
          have hbb := Lib.hid (below_two hb)
          clear hb hb0 hb1
          skip
          go_wp2
          refine bodyPost_ret (v := .tuple #[.agg #[.int .i64 0, .int .i64 0, .bool false, .string ⟨#[]⟩], .bool false]) (by simp [results, Tryd.results78, go_sem, c00, c01, c02, c03]) rfl ⟨rfl, ?_⟩
          exact ((((hbb.out.setCell (Nat.le_refl _) _).setCell (Nat.le_refl _) _).setCell (Nat.le_refl _) _).setCell (Nat.le_refl _) _)
set_option maxHeartbeats 1600000 in
theorem get_no2 (b : List UInt8) (w : World) (h : b.length = 64) (h7 : ((b.getD 7 0).toNat : Int) ≤ 56) (hok : secOk (val (b.take 4)) (val ((b.drop 4).take 2)) ((b.drop 8).take (b.getD 7 0).toNat) = true) (heq : enc (val (b.take 4)) (val ((b.drop 4).take 2)) (((b.getD 6 0).toNat : Int) == 2) ((b.drop 8).take (b.getD 7 0).toNat) ≠ b) :
    Calls Tryd.prog 78 #[.string (mk b)] w fun en w' => en = .returned (.tuple #[.agg #[.int .i64 0, .int .i64 0, .bool false, .string ⟨#[]⟩], .bool false]) ∧ Below w.heap.size w w' := by
  have h64 : 64 ≤ b.length := by omega
  have h64' : b.length ≤ 64 := by omega
  obtain ⟨x6, hx6⟩ : ∃ x, x = b.getD 6 0 := ⟨_, rfl⟩
  obtain ⟨x7, hx7⟩ : ∃ x, x = b.getD 7 0 := ⟨_, rfl⟩
  rw [← hx7] at h7
  have g6 : ∀ h : 6 < (mk b).size, (mk b)[6] = x6 := fun h => by rw [mk_get, hx6]
  have g7 : ∀ h : 7 < (mk b).size, (mk b)[7] = x7 := fun h => by rw [mk_get, hx7]
  replace hx6 := Lib.hid hx6
  replace hx7 := Lib.hid hx7
  have hne : ((b.length : Int) != 64) = false := by rw [bne_eq_false_iff_eq]; omega
  have hsl : ∀ w, (Instr.slice 9 (.string (mk b)) (some (.int .i64 8)) (some (.int .i64 (8 + (x7.toNat : Int)))) none).run Tryd.prog w = .ok (.string (mk ((b.drop 8).take x7.toNat))) w := fun w => by
    rw [run_slice_string w 9 (mk b) .i64 .i64 8 (8 + (x7.toNat : Int)) Tryd.underlying9 (by omega) (by omega) (by rw [mk_size]; omega), mk_ext, show ((8 : Int) + x7.toNat).toNat - (8 : Int).toNat = x7.toNat by omega]
    rfl
  have hw7 : IntKind.i64.wrap (x7.toNat : Int) = x7.toNat := IntWalk.i64_in _ (by omega)
  have i61 : (6 : Int) < b.length := by omega
  have i71 : (7 : Int) < b.length := by omega
  have i4 : (4 : Int) ≤ b.length := by omega
  have i6 : (6 : Int) ≤ b.length := by omega
  have i8 : (8 : Int) + x7.toNat ≤ b.length := by omega
  have i8' : (8 : Int) + x7.toNat ≤ 64 := by omega
  have hw8 : IntKind.i64.wrap ((8 : Int) + x7.toNat) = 8 + x7.toNat := IntWalk.i64_in _ (by omega)
  replace h := Lib.hid h
  rw [← hx7.out] at hok heq
  rw [← hx6.out] at heq
  replace hok := Lib.hid hok
  replace heq := Lib.hid heq
  go_enter Tryd.func78, Tryd.ntmps78
  go_wp2
  refine wp_region_held_drew (S := fun _ => Hid True) (by kernel_rfl) (Lib.hid trivial) (fun hHeld => ?_)
  refine wpAnyH_take (i := 0) (v := ?_) rfl (by kernel_rfl) (by kernel_rfl) (by kernel_rfl) (fun _ _ _ h => h) (Or.inl ⟨by rfl, ?_⟩) (by assumption) ?_
  rotate_left
  · (intro wS hSw; (try dsimp only at hSw); go_simp; (try with_reducible rfl))
  try simp only [Act.put, List.getElem_toArray, List.getElem_cons_zero, List.setIfInBounds_toArray, List.set_cons_zero, List.set_cons_succ]
  refine wpAnyH_take (i := 1) (v := ?_) rfl (by kernel_rfl) (by kernel_rfl) (by kernel_rfl) (fun _ _ _ h => h) (Or.inl ⟨by rfl, ?_⟩) (by assumption) ?_
  rotate_left
  · (intro wS hSw; (try dsimp only at hSw); go_simp; (try with_reducible rfl))
  try simp only [Act.put, List.getElem_toArray, List.getElem_cons_succ, List.getElem_cons_zero, List.setIfInBounds_toArray, List.set_cons_zero, List.set_cons_succ]
  refine wpAnyH_take (i := 3) (v := ?_) rfl (by kernel_rfl) (by kernel_rfl) (by kernel_rfl) (fun _ _ _ h => h) (Or.inl ⟨by rfl, ?_⟩) (by assumption) ?_
  rotate_left
  · (intro wS hSw; (try dsimp only at hSw); go_simp; (try with_reducible rfl))
  try simp only [Act.put, List.getElem_toArray, List.getElem_cons_succ, List.getElem_cons_zero, List.setIfInBounds_toArray, List.set_cons_zero, List.set_cons_succ]
  refine wpAnyH_take (i := 4) (v := ?_) rfl (by kernel_rfl) (by kernel_rfl) (by kernel_rfl) (fun _ _ _ h => h) (Or.inl ⟨by rfl, ?_⟩) (by assumption) ?_
  rotate_left
  · (intro wS hSw; (try dsimp only at hSw); go_simp; (try with_reducible rfl))
  try simp only [Act.put, List.getElem_toArray, List.getElem_cons_succ, List.getElem_cons_zero, List.setIfInBounds_toArray, List.set_cons_zero, List.set_cons_succ]
  refine wpAnyH_take (i := 6) (v := ?_) rfl (by kernel_rfl) (by kernel_rfl) (by kernel_rfl) (fun _ _ _ h => h) (Or.inl ⟨by rfl, ?_⟩) (by assumption) ?_
  rotate_left
  · (intro wS hSw; (try dsimp only at hSw); go_simp; (try with_reducible rfl))
  try simp only [Act.put, List.getElem_toArray, List.getElem_cons_succ, List.getElem_cons_zero, List.setIfInBounds_toArray, List.set_cons_zero, List.set_cons_succ]
  refine wpAnyH_take (i := 9) (v := ?_) rfl (by kernel_rfl) (by kernel_rfl) (by kernel_rfl) (fun _ _ _ h => h) (Or.inl ⟨by rfl, ?_⟩) (by assumption) ?_
  rotate_left
  · (intro wS hSw; (try dsimp only at hSw); go_simp; (try with_reducible rfl))
  try simp only [Act.put, List.getElem_toArray, List.getElem_cons_succ, List.getElem_cons_zero, List.setIfInBounds_toArray, List.set_cons_zero, List.set_cons_succ]
  refine wpAnyH_take (i := 10) (v := ?_) rfl (by kernel_rfl) (by kernel_rfl) (by kernel_rfl) (fun _ _ _ h => h) (Or.inl ⟨by rfl, ?_⟩) (by assumption) ?_
  rotate_left
  · (intro wS hSw; (try dsimp only at hSw); go_simp; (try with_reducible rfl))
  try simp only [Act.put, List.getElem_toArray, List.getElem_cons_succ, List.getElem_cons_zero, List.setIfInBounds_toArray, List.set_cons_zero, List.set_cons_succ]
  refine wpAnyH_take (i := 7) (v := ?_) rfl (by kernel_rfl) (by kernel_rfl) (by kernel_rfl) (fun _ _ _ h => h) (Or.inl ⟨by rfl, ?_⟩) (by assumption) ?_
  rotate_left
  · (intro wS hSw; (try dsimp only at hSw); go_simp; (try with_reducible rfl))
  try simp only [Act.put, List.getElem_toArray, List.getElem_cons_succ, List.getElem_cons_zero, List.setIfInBounds_toArray, List.set_cons_zero, List.set_cons_succ]
  refine wpAnyH_take (i := 8) (v := ?_) rfl (by kernel_rfl) (by kernel_rfl) (by kernel_rfl) (fun _ _ _ h => h) (Or.inl ⟨by rfl, ?_⟩) (by assumption) ?_
  rotate_left
  · (intro wS hSw; (try dsimp only at hSw); go_simp; (try with_reducible rfl))
  try simp only [Act.put, List.getElem_toArray, List.getElem_cons_succ, List.getElem_cons_zero, List.setIfInBounds_toArray, List.set_cons_zero, List.set_cons_succ]
  refine wpAnyH_take (i := 11) (v := ?_) rfl (by kernel_rfl) (by kernel_rfl) (by kernel_rfl) (fun _ _ _ h => h) (Or.inl ⟨by rfl, ?_⟩) (by assumption) ?_
  rotate_left
  · (intro wS hSw; (try dsimp only at hSw); go_simp; (try with_reducible rfl))
  try simp only [Act.put, List.getElem_toArray, List.getElem_cons_succ, List.getElem_cons_zero, List.setIfInBounds_toArray, List.set_cons_zero, List.set_cons_succ]
  refine wpAnyH_take (i := 12) (v := ?_) rfl (by kernel_rfl) (by kernel_rfl) (by kernel_rfl) (fun _ _ _ h => h) (Or.inl ⟨by rfl, ?_⟩) (by assumption) ?_
  rotate_left
  · (intro wS hSw; (try dsimp only at hSw); go_simp; (try with_reducible rfl))
  try simp only [Act.put, List.getElem_toArray, List.getElem_cons_succ, List.getElem_cons_zero, List.setIfInBounds_toArray, List.set_cons_zero, List.set_cons_succ]
  refine wpAnyH_take (i := 13) (v := ?_) rfl (by kernel_rfl) (by kernel_rfl) (by kernel_rfl) (fun _ _ _ h => h) (Or.inl ⟨by rfl, ?_⟩) (by assumption) ?_
  rotate_left
  · (intro wS hSw; (try dsimp only at hSw); go_simp; (try with_reducible rfl))
  try simp only [Act.put, List.getElem_toArray, List.getElem_cons_succ, List.getElem_cons_zero, List.setIfInBounds_toArray, List.set_cons_zero, List.set_cons_succ]
  refine wpAnyH_take (i := 14) (v := ?_) rfl (by kernel_rfl) (by kernel_rfl) (by kernel_rfl) (fun _ _ _ h => h) (Or.inl ⟨by rfl, ?_⟩) (by assumption) ?_
  rotate_left
  · (intro wS hSw; (try dsimp only at hSw); go_simp; (try with_reducible rfl))
  try simp only [Act.put, List.getElem_toArray, List.getElem_cons_succ, List.getElem_cons_zero, List.setIfInBounds_toArray, List.set_cons_zero, List.set_cons_succ]
  refine wpAnyH_ready (rs := [2, 16]) (by kernel_rfl) (by simp) ?_
  refine AllReadyH.cons rfl (fun K hK => ?_) (AllReadyH.cons rfl (fun K hK => ?_) AllReadyH.nil)
  · simp only [List.getElem_toArray, List.getElem_cons_succ, List.getElem_cons_zero]
    go_simp
    (go_at_call 79; refine (value_any _ _ (by simp; omega)).mono ?_; rintro en wq ⟨rfl, rfl⟩)
    go_wp2_with fail
    refine hK.out _ _ (Lib.hid trivial) (fun hHeld => ?_)
    clear hK K
    try simp only [Act.put, List.getElem_toArray, List.getElem_cons_succ, List.getElem_cons_zero, List.setIfInBounds_toArray, List.set_cons_zero, List.set_cons_succ]
    refine wpAnyH_ready (rs := [5, 16]) (by kernel_rfl) (by simp) ?_
    refine AllReadyH.cons rfl (fun K hK => ?_) (AllReadyH.cons rfl (fun K hK => ?_) AllReadyH.nil)
    · simp only [List.getElem_toArray, List.getElem_cons_succ, List.getElem_cons_zero]
      go_simp
      (go_at_call 79; refine (value_any _ _ (by simp; omega)).mono ?_; rintro en wq ⟨rfl, rfl⟩)
      go_wp2_with fail
      refine hK.out _ _ (Lib.hid trivial) (fun hHeld => ?_)
      clear hK K
      try simp only [Act.put, List.getElem_toArray, List.getElem_cons_succ, List.getElem_cons_zero, List.setIfInBounds_toArray, List.set_cons_zero, List.set_cons_succ]
      refine wpAnyH_take (i := 15) (v := ?_) rfl (by kernel_rfl) (by kernel_rfl) (by kernel_rfl) (fun _ _ _ h => h) (Or.inl ⟨by rfl, ?_⟩) (by assumption) ?_
      rotate_left
      · (intro wS hSw; (try dsimp only at hSw); go_simp; (try with_reducible rfl))
      try simp only [Act.put, List.getElem_toArray, List.getElem_cons_succ, List.getElem_cons_zero, List.setIfInBounds_toArray, List.set_cons_zero, List.set_cons_succ]
      refine wpAnyH_ready (rs := [16]) (by kernel_rfl) (by simp) ?_
      refine AllReadyH.cons rfl (fun K hK => ?_) AllReadyH.nil
      · simp only [List.getElem_toArray, List.getElem_cons_succ, List.getElem_cons_zero]
        go_simp
        refine hK.out _ _ (Lib.hid trivial) (fun hHeld => ?_)
        clear hK K
        try simp only [Act.put, List.getElem_toArray, List.getElem_cons_succ, List.getElem_cons_zero, List.setIfInBounds_toArray, List.set_cons_zero, List.set_cons_succ]
        refine wpAnyH_ready (rs := [17]) (by kernel_rfl) (by simp) ?_
        refine AllReadyH.cons rfl (fun K hK => ?_) AllReadyH.nil
        · simp only [List.getElem_toArray, List.getElem_cons_succ, List.getElem_cons_zero]
          go_simp
          refine hK.out _ _ (Lib.hid trivial) (fun hHeld => ?_)
          clear hK K
          try simp only [Act.put, List.getElem_toArray, List.getElem_cons_succ, List.getElem_cons_zero, List.setIfInBounds_toArray, List.set_cons_zero, List.set_cons_succ]
          refine wpAnyH_done (by kernel_rfl) ?_ _
          go_wp2_with fail
          refine (put_yes _ _ _ _ _ hok.out).mono ?_
          rintro en wq ⟨rfl, hb⟩
          have hb1 : wq.heap[w.heap.size + 1]? = some (.cells #[.int .i64 (val (List.take 4 b)), .int .i64 (val (List.take 2 (List.drop 4 b))), .bool ((x6.toNat : Int) == 2), .string (mk (List.take x7.toNat (List.drop 8 b)))] 121 (0, 0)) := (hb.block _ (by simp)).trans (cells_two _ _ _)
          have hb0 : wq.heap[w.heap.size]? = some (.cells #[.int .i64 0, .int .i64 0, .bool false, .string ⟨#[]⟩] 121 (0, 0)) := (hb.block _ (by simp; omega)).trans (cells_one _ _ _)
          have c10 := cell_of (i := 0) hb1 rfl
          have c11 := cell_of (i := 1) hb1 rfl
          have c12 := cell_of (i := 2) hb1 rfl
          have c13 := cell_of (i := 3) hb1 rfl
          have c00 := cell_of (i := 0) hb0 rfl
          have c01 := cell_of (i := 1) hb0 rfl
          have c02 := cell_of (i := 2) hb0 rfl
          have c03 := cell_of (i := 3) hb0 rfl
          have f00 := free_of (i := 0) hb0
          have f01 := free_of (i := 1) hb0
          have f02 := free_of (i := 2) hb0
          have f03 := free_of (i := 3) hb0
          have hbb := Lib.hid (below_two hb)
          clear hb hb0 hb1
          have hcmp : (enc (val (List.take 4 b)) (val (List.take 2 (List.drop 4 b))) ((x6.toNat : Int) == 2) (List.take x7.toNat (List.drop 8 b)) == b) = false := beq_eq_false_iff_ne.2 heq.out
          go_wp2
          refine bodyPost_ret (v := .tuple #[.agg #[.int .i64 0, .int .i64 0, .bool false, .string ⟨#[]⟩], .bool false]) (by simp [results, Tryd.results78, go_sem, c00, c01, c02, c03]) rfl ⟨rfl, ?_⟩
          exact ((((hbb.out.setCell (Nat.le_refl _) _).setCell (Nat.le_refl _) _).setCell (Nat.le_refl _) _).setCell (Nat.le_refl _) _)
    · simp only [List.getElem_toArray, List.getElem_cons_succ, List.getElem_cons_zero]
      go_simp
      refine hK.out _ _ (Lib.hid trivial) (fun hHeld => ?_)
      clear hK K
      try simp only [Act.put, List.getElem_toArray, List.getElem_cons_succ, List.getElem_cons_zero, List.setIfInBounds_toArray, List.set_cons_zero, List.set_cons_succ]
      refine wpAnyH_ready (rs := [5]) (by kernel_rfl) (by simp) ?_
      refine AllReadyH.cons rfl (fun K hK => ?_) AllReadyH.nil
      · simp only [List.getElem_toArray, List.getElem_cons_succ, List.getElem_cons_zero]
        go_simp
        (go_at_call 79; refine (value_any _ _ (by simp; omega)).mono ?_; rintro en wq ⟨rfl, rfl⟩)
        go_wp2_with fail
        refine hK.out _ _ (Lib.hid trivial) (fun hHeld => ?_)
        clear hK K
        try simp only [Act.put, List.getElem_toArray, List.getElem_cons_succ, List.getElem_cons_zero, List.setIfInBounds_toArray, List.set_cons_zero, List.set_cons_succ]
        refine wpAnyH_take (i := 15) (v := ?_) rfl (by kernel_rfl) (by kernel_rfl) (by kernel_rfl) (fun _ _ _ h => h) (Or.inl ⟨by rfl, ?_⟩) (by assumption) ?_
        rotate_left
        · (intro wS hSw; (try dsimp only at hSw); go_simp; (try with_reducible rfl))
        try simp only [Act.put, List.getElem_toArray, List.getElem_cons_succ, List.getElem_cons_zero, List.setIfInBounds_toArray, List.set_cons_zero, List.set_cons_succ]
        refine wpAnyH_ready (rs := [17]) (by kernel_rfl) (by simp) ?_
        refine AllReadyH.cons rfl (fun K hK => ?_) AllReadyH.nil
        · simp only [List.getElem_toArray, List.getElem_cons_succ, List.getElem_cons_zero]
          go_simp
          refine hK.out _ _ (Lib.hid trivial) (fun hHeld => ?_)
          clear hK K
          try simp only [Act.put, List.getElem_toArray, List.getElem_cons_succ, List.getElem_cons_zero, List.setIfInBounds_toArray, List.set_cons_zero, List.set_cons_succ]
          refine wpAnyH_done (by kernel_rfl) ?_ _
          go_wp2_with fail
          refine (put_yes _ _ _ _ _ hok.out).mono ?_
          rintro en wq ⟨rfl, hb⟩
          have hb1 : wq.heap[w.heap.size + 1]? = some (.cells #[.int .i64 (val (List.take 4 b)), .int .i64 (val (List.take 2 (List.drop 4 b))), .bool ((x6.toNat : Int) == 2), .string (mk (List.take x7.toNat (List.drop 8 b)))] 121 (0, 0)) := (hb.block _ (by simp)).trans (cells_two _ _ _)
          have hb0 : wq.heap[w.heap.size]? = some (.cells #[.int .i64 0, .int .i64 0, .bool false, .string ⟨#[]⟩] 121 (0, 0)) := (hb.block _ (by simp; omega)).trans (cells_one _ _ _)
          have c10 := cell_of (i := 0) hb1 rfl
          have c11 := cell_of (i := 1) hb1 rfl
          have c12 := cell_of (i := 2) hb1 rfl
          have c13 := cell_of (i := 3) hb1 rfl
          have c00 := cell_of (i := 0) hb0 rfl
          have c01 := cell_of (i := 1) hb0 rfl
          have c02 := cell_of (i := 2) hb0 rfl
          have c03 := cell_of (i := 3) hb0 rfl
          have f00 := free_of (i := 0) hb0
          have f01 := free_of (i := 1) hb0
          have f02 := free_of (i := 2) hb0
          have f03 := free_of (i := 3) hb0
          have hbb := Lib.hid (below_two hb)
          clear hb hb0 hb1
          have hcmp : (enc (val (List.take 4 b)) (val (List.take 2 (List.drop 4 b))) ((x6.toNat : Int) == 2) (List.take x7.toNat (List.drop 8 b)) == b) = false := beq_eq_false_iff_ne.2 heq.out
          go_wp2
          refine bodyPost_ret (v := .tuple #[.agg #[.int .i64 0, .int .i64 0, .bool false, .string ⟨#[]⟩], .bool false]) (by simp [results, Tryd.results78, go_sem, c00, c01, c02, c03]) rfl ⟨rfl, ?_⟩
          exact ((((hbb.out.setCell (Nat.le_refl _) _).setCell (Nat.le_refl _) _).setCell (Nat.le_refl _) _).setCell (Nat.le_refl _) _)
  · simp only [List.getElem_toArray, List.getElem_cons_succ, List.getElem_cons_zero]
    go_simp
    refine hK.out _ _ (Lib.hid trivial) (fun hHeld => ?_)
    clear hK K
    try simp only [Act.put, List.getElem_toArray, List.getElem_cons_succ, List.getElem_cons_zero, List.setIfInBounds_toArray, List.set_cons_zero, List.set_cons_succ]
    refine wpAnyH_ready (rs := [2]) (by kernel_rfl) (by simp) ?_
    refine AllReadyH.cons rfl (fun K hK => ?_) AllReadyH.nil
    · simp only [List.getElem_toArray, List.getElem_cons_succ, List.getElem_cons_zero]
      go_simp
      (go_at_call 79; refine (value_any _ _ (by simp; omega)).mono ?_; rintro en wq ⟨rfl, rfl⟩)
      go_wp2_with fail
      refine hK.out _ _ (Lib.hid trivial) (fun hHeld => ?_)
      clear hK K
      try simp only [Act.put, List.getElem_toArray, List.getElem_cons_succ, List.getElem_cons_zero, List.setIfInBounds_toArray, List.set_cons_zero, List.set_cons_succ]
      refine wpAnyH_ready (rs := [5]) (by kernel_rfl) (by simp) ?_
      refine AllReadyH.cons rfl (fun K hK => ?_) AllReadyH.nil
      · simp only [List.getElem_toArray, List.getElem_cons_succ, List.getElem_cons_zero]
        go_simp
        (go_at_call 79; refine (value_any _ _ (by simp; omega)).mono ?_; rintro en wq ⟨rfl, rfl⟩)
        go_wp2_with fail
        refine hK.out _ _ (Lib.hid trivial) (fun hHeld => ?_)
        clear hK K
        try simp only [Act.put, List.getElem_toArray, List.getElem_cons_succ, List.getElem_cons_zero, List.setIfInBounds_toArray, List.set_cons_zero, List.set_cons_succ]
        refine wpAnyH_take (i := 15) (v := ?_) rfl (by kernel_rfl) (by kernel_rfl) (by kernel_rfl) (fun _ _ _ h => h) (Or.inl ⟨by rfl, ?_⟩) (by assumption) ?_
        rotate_left
        · (intro wS hSw; (try dsimp only at hSw); go_simp; (try with_reducible rfl))
        try simp only [Act.put, List.getElem_toArray, List.getElem_cons_succ, List.getElem_cons_zero, List.setIfInBounds_toArray, List.set_cons_zero, List.set_cons_succ]
        refine wpAnyH_ready (rs := [17]) (by kernel_rfl) (by simp) ?_
        refine AllReadyH.cons rfl (fun K hK => ?_) AllReadyH.nil
        · simp only [List.getElem_toArray, List.getElem_cons_succ, List.getElem_cons_zero]
          go_simp
          refine hK.out _ _ (Lib.hid trivial) (fun hHeld => ?_)
          clear hK K
          try simp only [Act.put, List.getElem_toArray, List.getElem_cons_succ, List.getElem_cons_zero, List.setIfInBounds_toArray, List.set_cons_zero, List.set_cons_succ]
          refine wpAnyH_done (by kernel_rfl) ?_ _
          go_wp2_with fail
          refine (put_yes _ _ _ _ _ hok.out).mono ?_
          rintro en wq ⟨rfl, hb⟩
          have hb1 : wq.heap[w.heap.size + 1]? = some (.cells #[.int .i64 (val (List.take 4 b)), .int .i64 (val (List.take 2 (List.drop 4 b))), .bool ((x6.toNat : Int) == 2), .string (mk (List.take x7.toNat (List.drop 8 b)))] 121 (0, 0)) := (hb.block _ (by simp)).trans (cells_two _ _ _)
          have hb0 : wq.heap[w.heap.size]? = some (.cells #[.int .i64 0, .int .i64 0, .bool false, .string ⟨#[]⟩] 121 (0, 0)) := (hb.block _ (by simp; omega)).trans (cells_one _ _ _)
          have c10 := cell_of (i := 0) hb1 rfl
          have c11 := cell_of (i := 1) hb1 rfl
          have c12 := cell_of (i := 2) hb1 rfl
          have c13 := cell_of (i := 3) hb1 rfl
          have c00 := cell_of (i := 0) hb0 rfl
          have c01 := cell_of (i := 1) hb0 rfl
          have c02 := cell_of (i := 2) hb0 rfl
          have c03 := cell_of (i := 3) hb0 rfl
          have f00 := free_of (i := 0) hb0
          have f01 := free_of (i := 1) hb0
          have f02 := free_of (i := 2) hb0
          have f03 := free_of (i := 3) hb0
          have hbb := Lib.hid (below_two hb)
          clear hb hb0 hb1
          have hcmp : (enc (val (List.take 4 b)) (val (List.take 2 (List.drop 4 b))) ((x6.toNat : Int) == 2) (List.take x7.toNat (List.drop 8 b)) == b) = false := beq_eq_false_iff_ne.2 heq.out
          go_wp2
          refine bodyPost_ret (v := .tuple #[.agg #[.int .i64 0, .int .i64 0, .bool false, .string ⟨#[]⟩], .bool false]) (by simp [results, Tryd.results78, go_sem, c00, c01, c02, c03]) rfl ⟨rfl, ?_⟩
          exact ((((hbb.out.setCell (Nat.le_refl _) _).setCell (Nat.le_refl _) _).setCell (Nat.le_refl _) _).setCell (Nat.le_refl _) _)
theorem get_short (b : List UInt8) (w : World) (_hb : b.length ≤ 140737488351232) (h : b.length ≠ 64) :
    Calls Tryd.prog 78 #[.string (mk b)] w fun en w' => en = .returned (.tuple #[.agg #[.int .i64 0, .int .i64 0, .bool false, .string ⟨#[]⟩], .bool false]) ∧ Below w.heap.size w w' := by
  have hne : ((b.length : Int) != 64) = true := by rw [bne_iff_ne]; omega
  go_enter Tryd.func78, Tryd.ntmps78
  go_wp2
  refine bodyPost_ret (v := .tuple #[.agg #[.int .i64 0, .int .i64 0, .bool false, .string ⟨#[]⟩], .bool false]) (by simp [results, Tryd.results78, go_sem]) rfl ⟨rfl, ?_⟩
  exact (Below.refl _ _).alloc (Nat.le_refl _) _
theorem get_over (b : List UInt8) (w : World) (h : b.length = 64) (h7 : 56 < ((b.getD 7 0).toNat : Int)) :
    Calls Tryd.prog 78 #[.string (mk b)] w fun en w' => en = .returned (.tuple #[.agg #[.int .i64 0, .int .i64 0, .bool false, .string ⟨#[]⟩], .bool false]) ∧ Below w.heap.size w w' := by
  have h64 : 64 ≤ b.length := by omega
  have h64' : b.length ≤ 64 := by omega
  obtain ⟨x7, hx7⟩ : ∃ x, x = b.getD 7 0 := ⟨_, rfl⟩
  rw [← hx7] at h7
  have g7 : ∀ h : 7 < (mk b).size, (mk b)[7] = x7 := fun h => by rw [mk_get, hx7]
  have h8 := x7.toNat_lt
  have hw7 : IntKind.i64.wrap (x7.toNat : Int) = x7.toNat := IntWalk.i64_in _ (by omega)
  replace hx7 := Lib.hid hx7
  replace h := Lib.hid h
  have hne : ((b.length : Int) != 64) = false := by rw [bne_eq_false_iff_eq]; omega
  have i71 : (7 : Int) < b.length := by omega
  go_enter Tryd.func78, Tryd.ntmps78
  go_wp2
  refine bodyPost_ret (v := .tuple #[.agg #[.int .i64 0, .int .i64 0, .bool false, .string ⟨#[]⟩], .bool false]) (by simp [results, Tryd.results78, go_sem]) rfl ⟨rfl, ?_⟩
  exact (Below.refl _ _).alloc (Nat.le_refl _) _

theorem fresh_eq (x : UInt8) : ((x.toNat : Int) == 2) = (x == 2) := by
  by_cases h : x = 2
  · subst h; rfl
  · rw [beq_eq_false_iff_ne.2 h, beq_eq_false_iff_ne.2]
    intro e
    exact h (UInt8.toNat_inj.1 (by have : (2 : UInt8).toNat = 2 := rfl; omega))
def secV (s : Option Sec) : Value := match s with
  | some s => .tuple #[.agg #[.int .i64 s.epoch, .int .i64 s.index, .bool s.fresh, .string (mk s.pay)], .bool true]
  | none => .tuple #[.agg #[.int .i64 0, .int .i64 0, .bool false, .string ⟨#[]⟩], .bool false]
/-- Get, at every bytes. -/
theorem get_any (b : List UInt8) (s : Option Sec) (w : World) (hb : b.length ≤ 140737488351232) (h : dec b = s) :
    Calls Tryd.prog 78 #[.string (mk b)] w fun en w' => en = .returned (secV s) ∧ Below w.heap.size w w' := by
  subst h
  by_cases c1 : b.length = 64
  · by_cases c2 : ((b.getD 7 0).toNat : Int) ≤ 56
    · have e6 := fresh_eq (b.getD 6 0)
      cases c3 : secOk (val (b.take 4)) (val ((b.drop 4).take 2)) ((b.drop 8).take (b.getD 7 0).toNat) with
      | true =>
        by_cases c4 : enc (val (b.take 4)) (val ((b.drop 4).take 2)) (((b.getD 6 0).toNat : Int) == 2) ((b.drop 8).take (b.getD 7 0).toNat) = b
        · refine (get_yes b w c1 c2 c3 c4).mono fun en w' ⟨he, hw⟩ => ⟨?_, hw⟩
          rw [he, dec, if_pos ⟨c1, Int.ofNat_le.1 c2, c3, by rw [e6] at c4; exact c4⟩, secV, secOf, e6]
        · refine (get_no2 b w c1 c2 c3 c4).mono fun en w' ⟨he, hw⟩ => ⟨?_, hw⟩
          rw [he, dec, if_neg (fun c => c4 (by rw [e6]; exact c.2.2.2)), secV]
      | false =>
        refine (get_no1 b w c1 c2 c3).mono fun en w' ⟨he, hw⟩ => ⟨?_, hw⟩
        rw [he, dec, if_neg (fun c => by have h3 := c.2.2.1; simp only [secOf] at h3; rw [c3] at h3; cases h3), secV]
    · refine (get_over b w c1 (by omega)).mono fun en w' ⟨he, hw⟩ => ⟨?_, hw⟩
      rw [he, dec, if_neg (fun c => c2 (Int.ofNat_le.2 c.2.1)), secV]
  · refine (get_short b w hb c1).mono fun en w' ⟨he, hw⟩ => ⟨?_, hw⟩
    rw [he, dec, if_neg (fun c => c1 c.1), secV]
end Go.Proofs.YtofejnhnnmnfpaaDoor.Fr
