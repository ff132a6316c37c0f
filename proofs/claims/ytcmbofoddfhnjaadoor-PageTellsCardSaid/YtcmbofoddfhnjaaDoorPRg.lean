/- The reference's page: what bytes are read as. No condition. -/
import Derived.Test.YtcmbofoddfhnjaaDoorPRef
namespace Go.Proofs.YtcmbofoddfhnjaaDoor
open Go.RowKit
attribute [local go_sem] mk_size mk_append zs_length
attribute [local go_sem ↓] Go.wp_at_zero Go.wp_at_succ

theorem two_mid (b : List UInt8) (h : b.length = 256) : (b.drop 4).take 2 = [b.getD 4 0, b.getD 5 0] := by
  have h1 := List.drop_eq_getElem_cons (l := b) (i := 4) (by omega)
  have h2 := List.drop_eq_getElem_cons (l := b) (i := 5) (by omega)
  rw [h1, h2, List.take_succ_cons, List.take_succ_cons, List.take_zero]
  simp [List.getD, List.getElem?_eq_getElem (show 4 < b.length by omega), List.getElem?_eq_getElem (show 5 < b.length by omega)]
theorem rz (n : Nat) (x : Int) (w : World) (hx : x = n) (h : n ≤ 100000) : Calls Tryd.prog 15 #[.int .i64 x] w fun e w' => e = .returned (.string (mk (zs n))) ∧ Below w.heap.size w w' := by
  subst hx
  exact refZeros_any n w h
/-- The first block of the call, and what was there. -/
def RP (w0 w : World) : Prop := w.heap[w0.heap.size]? = some (.cells #[.int .i64 0, .int .i64 0, .int .i64 0, .string ⟨#[]⟩] 23 (0, 0)) ∧ Below w0.heap.size w0 w
theorem RP.start (w : World) : RP w (w.alloc (.cells #[.int .i64 0, .int .i64 0, .int .i64 0, .string ⟨#[]⟩] 23)) := ⟨heap_alloc_new w _, (Below.refl _ _).alloc (Nat.le_refl _) _⟩
theorem RP.more {w0 w w' : World} (h : RP w0 w) (hb : Below w.heap.size w w') : RP w0 w' := ⟨(hb.block _ (lt_of h.1)).trans h.1, h.2.trans (hb.mono h.2.size)⟩
theorem cells4' {w : World} {C : Nat} {a b c d : Value} {t : TypeId} (h : w.heap[C]? = some (.cells #[a, b, c, d] t (0, 0))) : w.cell? ⟨C, 0, none⟩ = some a ∧ w.cell? ⟨C, 1, none⟩ = some b ∧ w.cell? ⟨C, 2, none⟩ = some c ∧ w.cell? ⟨C, 3, none⟩ = some d ∧ ∀ i, w.frozen? ⟨C, i, none⟩ = false :=
  ⟨cell_of h rfl, cell_of h rfl, cell_of h rfl, cell_of h rfl, fun i => by simp [World.frozen?, h]⟩
/-- .. and the page that was read. -/
def RF (w0 : World) (C : Nat) (a b c d : Value) (w : World) : Prop := RP w0 w ∧ w.heap[C]? = some (.cells #[a, b, c, d] 23 (0, 0))
theorem RP.drew {w0 w : World} (h : RP w0 w) : RP w0 w.drew := h.more (Below.refl _ _).drew
theorem RP.alloc {w0 w : World} (h : RP w0 w) (o : Obj) : RP w0 (w.alloc o) := h.more ((Below.refl _ _).alloc (Nat.le_refl _) o)
theorem RP.set {w0 w : World} {C i : Nat} {u : Value} (h : RP w0 w) (hC : w0.heap.size < C) : RP w0 (w.setCell ⟨C, i, none⟩ u) :=
  ⟨(Below.heap_setCell w ⟨C, i, none⟩ u _ (by simp; omega)).trans h.1, h.2.setCell (by simp; omega) u⟩
theorem RP.set4 {w0 w : World} {C : Nat} {a b c e : Value} (h : RP w0 w) (hC : w0.heap.size < C) : RP w0 ((((w.setCell ⟨C, 0, none⟩ a).setCell ⟨C, 1, none⟩ b).setCell ⟨C, 2, none⟩ c).setCell ⟨C, 3, none⟩ e) :=
  (((h.set hC).set hC).set hC).set hC
theorem RF.new {w0 w : World} {a b c e : Value} (h : RP w0 (w.alloc (.cells #[a, b, c, e] 23))) : RF w0 w.heap.size a b c e (w.alloc (.cells #[a, b, c, e] 23)) := ⟨h, heap_alloc_new w _⟩
theorem RF.set {w0 w : World} {C : Nat} {a b c e a' b' c' e' : Value} (hb : w.heap[C]? = some (.cells #[a', b', c', e'] 23 (0, 0)))
    (h : RP w0 ((((w.setCell ⟨C, 0, none⟩ a).setCell ⟨C, 1, none⟩ b).setCell ⟨C, 2, none⟩ c).setCell ⟨C, 3, none⟩ e)) : RF w0 C a b c e ((((w.setCell ⟨C, 0, none⟩ a).setCell ⟨C, 1, none⟩ b).setCell ⟨C, 2, none⟩ c).setCell ⟨C, 3, none⟩ e) :=
  ⟨h, by
    have h1 := heap_setCell (heap_setCell (heap_setCell (heap_setCell hb a (i := 0)) b (i := 1)) c (i := 2)) e (i := 3)
    simpa using h1⟩
theorem RF.more {w0 w w' : World} {C : Nat} {a b c e : Value} (h : RF w0 C a b c e w) (hb : Below w.heap.size w w') : RF w0 C a b c e w' := ⟨h.1.more hb, (hb.block _ (lt_of h.2)).trans h.2⟩
theorem blk1 {w w' : World} {o : Obj} (hb : Below (w.alloc o).heap.size (w.alloc o) w') : w'.heap[w.heap.size]? = some o := (hb.block _ (by simp)).trans (heap_alloc_new w o)
theorem blk1' {w w' : World} {o : Obj} (hb : Below (w.alloc o).drew.heap.size (w.alloc o).drew w') : w'.heap[w.heap.size]? = some o := (hb.block _ (by simp)).trans (heap_alloc_new w o)
set_option maxRecDepth 100000 in
set_option maxHeartbeats 1600000 in
theorem rget_short (b : List UInt8) (w : World) (hb : b.length ≤ 140737488351232) (h : b.length ≠ 256) :
    Calls Tryd.prog 13 #[.string (mk b)] w fun en w' => en = .returned (pgV none) ∧ Below w.heap.size w w' := by
  have hne : ((b.length : Int) != 256) = true := by rw [bne_iff_ne]; omega
  have hz : (b == zs 256) = false := by rw [beq_eq_false_iff_ne]; intro e; exact h (by rw [e, zs_length])
  go_enter Tryd.func13, Tryd.ntmps13
  go_wp2_with fail
  refine (rz 256 256 _ rfl (by omega)).mono ?_
  rintro en w1 ⟨rfl, h1⟩
  have hrp := Lib.hid ((RP.start w).more h1)
  clear h1
  obtain ⟨c0, c1, c2, c3, fz⟩ := cells4' hrp.out.1
  go_wp2
  refine bodyPost_ret (v := .tuple #[.agg #[.int .i64 0, .int .i64 0, .int .i64 0, .string ⟨#[]⟩], .bool false]) (by simp [results, Tryd.results13, go_sem, c0, c1, c2, c3]) rfl ⟨rfl, ?_⟩
  exact ((((hrp.out.2.setCell (Nat.le_refl _) _).setCell (Nat.le_refl _) _).setCell (Nat.le_refl _) _).setCell (Nat.le_refl _) _)
set_option maxRecDepth 100000 in
set_option maxHeartbeats 1600000 in
theorem rget_z (b : List UInt8) (w : World) (hz0 : b = zs 256) :
    Calls Tryd.prog 13 #[.string (mk b)] w fun en w' => en = .returned (pgV (some ⟨0, 0, 0, zs 240⟩)) ∧ Below w.heap.size w w' := by
  have hz : (b == zs 256) = true := by rw [hz0]; simp
  clear hz0
  go_enter Tryd.func13, Tryd.ntmps13
  go_wp2_with fail
  refine (rz 256 256 _ rfl (by omega)).mono ?_
  rintro en w1 ⟨rfl, h1⟩
  have hrp := Lib.hid ((RP.start w).more h1)
  clear h1
  go_wp2_with fail
  refine (rz 240 240 _ rfl (by omega)).mono ?_
  rintro en w2 ⟨rfl, h2⟩
  replace hrp := Lib.hid (hrp.out.more h2)
  clear h2
  obtain ⟨c0, c1, c2, c3, fz⟩ := cells4' hrp.out.1
  go_wp2
  refine bodyPost_ret (v := .tuple #[.agg #[.int .i64 0, .int .i64 0, .int .i64 0, .string (mk (zs 240))], .bool true]) (by simp [results, Tryd.results13, go_sem, c0, c1, c2, c3]) rfl ⟨rfl, ?_⟩
  exact ((((hrp.out.2.setCell (Nat.le_refl _) _).setCell (Nat.le_refl _) _).setCell (Nat.le_refl _) _).setCell (Nat.le_refl _) _)
set_option maxRecDepth 100000 in
set_option maxHeartbeats 1600000 in
theorem rget_yes (b : List UInt8) (w : World) (h : b.length = 256) (hz0 : b ≠ zs 256) (hpv : putV (pgOf b) = .tuple #[.string (mk b), .bool true]) :
    Calls Tryd.prog 13 #[.string (mk b)] w fun en w' => en = .returned (pgV (some (pgOf b))) ∧ Below w.heap.size w w' := by
  have hz : (b == zs 256) = false := by rw [beq_eq_false_iff_ne]; exact hz0
  clear hz0
  have h16 : 16 ≤ b.length := by omega
  have hbl : b.length ≤ 256 := by omega
  obtain ⟨x2, hx2⟩ : ∃ x, x = b.getD 2 0 := ⟨_, rfl⟩
  obtain ⟨x3, hx3⟩ : ∃ x, x = b.getD 3 0 := ⟨_, rfl⟩
  obtain ⟨x4, hx4⟩ : ∃ x, x = b.getD 4 0 := ⟨_, rfl⟩
  obtain ⟨x5, hx5⟩ : ∃ x, x = b.getD 5 0 := ⟨_, rfl⟩
  have hi2 := idx b 2 2 x2.toNat rfl (by omega) (by rw [hx2])
  have hi3 := idx b 3 3 x3.toNat rfl (by omega) (by rw [hx3])
  have hsm : ∀ w, (Instr.slice 9 (.string (mk b)) (some (.int .i64 4)) (some (.int .i64 6)) none).run Tryd.prog w = .ok (.string (mk [x4, x5])) w := fun w => by rw [hx4, hx5, ← two_mid b h]; exact sl_mid b 4 2 4 6 rfl rfl (by omega) w
  have hsf := sl_from b 16 16 rfl (by omega)
  have u2 := x2.toNat_lt
  have u3 := x3.toNat_lt
  have hw2 : IntKind.i64.wrap (x2.toNat : Int) = x2.toNat := IntWalk.i64_in _ (by omega)
  have hw3 : IntKind.i64.wrap (x3.toNat : Int) = x3.toNat := IntWalk.i64_in _ (by omega)
  obtain ⟨nx, hnx⟩ : ∃ nx : Int, nx = (x4.toNat * 256 + x5.toNat : Int) := ⟨_, rfl⟩
  have hpg : pgOf b = ⟨x2.toNat, x3.toNat, nx, b.drop 16⟩ := by rw [pgOf, hx2, hx3, hnx, hx4, hx5]
  rw [hpg] at hpv
  try rw [hpg]
  replace hpv := Lib.hid hpv
  have hof := fun w => of_two x4 x5 w
  rw [← hnx] at hof
  replace hof := Lib.hid hof
  replace hpg := Lib.hid hpg
  replace hnx := Lib.hid hnx
  replace hx2 := Lib.hid hx2
  replace hx3 := Lib.hid hx3
  replace hx4 := Lib.hid hx4
  replace hx5 := Lib.hid hx5
  have hne : ((b.length : Int) != 256) = false := by rw [bne_eq_false_iff_eq]; omega
  have hdl : (b.drop 16).length ≤ 1000 := by rw [List.length_drop]; omega
  replace h := Lib.hid h
  go_enter Tryd.func13, Tryd.ntmps13
  go_wp2_with fail
  refine (rz 256 256 _ rfl (by omega)).mono ?_
  rintro en w1 ⟨rfl, h1⟩
  have hrp := Lib.hid ((RP.start w).more h1)
  clear h1
  go_wp2
  have hsz := Lib.hid (show w.heap.size < w1.heap.size from lt_of hrp.out.1)
  refine wp_region_held_drew (S := RP w) (by kernel_rfl) hrp.out.drew (fun hHeld => ?_)
  refine wpAnyH_take (i := 0) (v := ?_) rfl (by kernel_rfl) (by kernel_rfl) (by kernel_rfl) (fun _ _ _ h => h) (Or.inl ⟨by rfl, ?_⟩) (by assumption) ?_
  rotate_left
  · (intro wS hSw; (try dsimp only at hSw); go_simp; (try with_reducible rfl))
  try simp only [Act.put, List.getElem_toArray, List.getElem_cons_zero, List.setIfInBounds_toArray, List.set_cons_zero, List.set_cons_succ]
  refine wpAnyH_take (i := 1) (v := ?_) rfl (by kernel_rfl) (by kernel_rfl) (by kernel_rfl) (fun _ _ _ h => h) (Or.inl ⟨by rfl, ?_⟩) (by assumption) ?_
  rotate_left
  · (intro wS hSw; (try dsimp only at hSw); go_simp; (try with_reducible rfl))
  try simp only [Act.put, List.getElem_toArray, List.getElem_cons_succ, List.getElem_cons_zero, List.setIfInBounds_toArray, List.set_cons_zero, List.set_cons_succ]
  refine wpAnyH_take (i := 2) (v := ?_) rfl (by kernel_rfl) (by kernel_rfl) (by kernel_rfl) (fun _ _ _ h => h) (Or.inl ⟨by rfl, ?_⟩) (by assumption) ?_
  rotate_left
  · (intro wS hSw; (try dsimp only at hSw); go_simp; (try with_reducible rfl))
  try simp only [Act.put, List.getElem_toArray, List.getElem_cons_succ, List.getElem_cons_zero, List.setIfInBounds_toArray, List.set_cons_zero, List.set_cons_succ]
  refine wpAnyH_take (i := 3) (v := ?_) rfl (by kernel_rfl) (by kernel_rfl) (by kernel_rfl) (fun _ _ _ h => h) (Or.inl ⟨by rfl, ?_⟩) (by assumption) ?_
  rotate_left
  · (intro wS hSw; (try dsimp only at hSw); go_simp; (try with_reducible rfl))
  try simp only [Act.put, List.getElem_toArray, List.getElem_cons_succ, List.getElem_cons_zero, List.setIfInBounds_toArray, List.set_cons_zero, List.set_cons_succ]
  refine wpAnyH_take (i := 4) (v := ?_) rfl (by kernel_rfl) (by kernel_rfl) (by kernel_rfl) (fun _ _ _ h => h) (Or.inl ⟨by rfl, ?_⟩) (by assumption) ?_
  rotate_left
  · (intro wS hSw; (try dsimp only at hSw); go_simp; (try with_reducible rfl))
  try simp only [Act.put, List.getElem_toArray, List.getElem_cons_succ, List.getElem_cons_zero, List.setIfInBounds_toArray, List.set_cons_zero, List.set_cons_succ]
  refine wpAnyH_take (i := 5) (v := ?_) rfl (by kernel_rfl) (by kernel_rfl) (by kernel_rfl) (fun _ _ _ h => h) (Or.inl ⟨by rfl, ?_⟩) (by assumption) ?_
  rotate_left
  · (intro wS hSw; (try dsimp only at hSw); go_simp; (try with_reducible rfl))
  try simp only [Act.put, List.getElem_toArray, List.getElem_cons_succ, List.getElem_cons_zero, List.setIfInBounds_toArray, List.set_cons_zero, List.set_cons_succ]
  refine wpAnyH_take (i := 6) (v := ?_) rfl (by kernel_rfl) (by kernel_rfl) (by kernel_rfl) (fun _ _ _ h => h) (Or.inl ⟨by rfl, ?_⟩) (by assumption) ?_
  rotate_left
  · (intro wS hSw; (try dsimp only at hSw); go_simp; (try with_reducible rfl))
  try simp only [Act.put, List.getElem_toArray, List.getElem_cons_succ, List.getElem_cons_zero, List.setIfInBounds_toArray, List.set_cons_zero, List.set_cons_succ]
  refine wpAnyH_take (i := 7) (v := ?_) rfl (by kernel_rfl) (by kernel_rfl) (by kernel_rfl) (fun _ _ _ h => h) (Or.inl ⟨by rfl, ?_⟩) (by assumption) ?_
  rotate_left
  · (intro wS hSw; (try dsimp only at hSw); go_simp; (try with_reducible rfl))
  try simp only [Act.put, List.getElem_toArray, List.getElem_cons_succ, List.getElem_cons_zero, List.setIfInBounds_toArray, List.set_cons_zero, List.set_cons_succ]
  refine wpAnyH_take (i := 9) (v := ?_) rfl (by kernel_rfl) (by kernel_rfl) (by kernel_rfl) (fun _ _ _ h => h) (Or.inl ⟨by rfl, ?_⟩) (by assumption) ?_
  rotate_left
  · (intro wS hSw; (try dsimp only at hSw); go_simp; (try with_reducible rfl))
  try simp only [Act.put, List.getElem_toArray, List.getElem_cons_succ, List.getElem_cons_zero, List.setIfInBounds_toArray, List.set_cons_zero, List.set_cons_succ]
  refine wpAnyH_take (i := 10) (v := ?_) rfl (by kernel_rfl) (by kernel_rfl) (by kernel_rfl) (fun _ _ _ h => h) (Or.inl ⟨by rfl, ?_⟩) (by assumption) ?_
  rotate_left
  · (intro wS hSw; (try dsimp only at hSw); go_simp; (try with_reducible rfl))
  try simp only [Act.put, List.getElem_toArray, List.getElem_cons_succ, List.getElem_cons_zero, List.setIfInBounds_toArray, List.set_cons_zero, List.set_cons_succ]
  refine wpAnyH_ready (rs := [8, 12]) (by kernel_rfl) (by simp) ?_
  refine AllReadyH.cons rfl (fun K hK => ?_) (AllReadyH.cons rfl (fun K hK => ?_) AllReadyH.nil)
  · simp only [List.getElem_toArray, List.getElem_cons_succ, List.getElem_cons_zero]
    go_simp
    (go_at_call 19; refine (hof.out _).mono ?_; rintro en wq ⟨rfl, hb⟩)
    refine hK.out _ _ ((by first | exact RP.more hHeld hb | exact RP.more (RP.alloc hHeld _) hb | exact RP.more (RP.drew hHeld) hb | exact RP.more hHeld.drew hb)) (fun hHeld => ?_)
    clear hK K
    try simp only [Act.put, List.getElem_toArray, List.getElem_cons_succ, List.getElem_cons_zero, List.setIfInBounds_toArray, List.set_cons_zero, List.set_cons_succ]
    clear hb
    refine wpAnyH_take (i := 11) (v := ?_) rfl (by kernel_rfl) (by kernel_rfl) (by kernel_rfl) (fun _ _ _ h => h) (Or.inl ⟨by rfl, ?_⟩) (by assumption) ?_
    rotate_left
    · (intro wS hSw; (try dsimp only at hSw); go_simp; (try with_reducible rfl))
    try simp only [Act.put, List.getElem_toArray, List.getElem_cons_succ, List.getElem_cons_zero, List.setIfInBounds_toArray, List.set_cons_zero, List.set_cons_succ]
    refine wpAnyH_ready (rs := [12]) (by kernel_rfl) (by simp) ?_
    refine AllReadyH.cons rfl (fun K hK => ?_) AllReadyH.nil
    · simp only [List.getElem_toArray, List.getElem_cons_succ, List.getElem_cons_zero]
      go_simp
      refine hK.out _ _ (RP.alloc (by assumption) _) (fun hHeld => ?_)
      clear hK K
      try simp only [Act.put, List.getElem_toArray, List.getElem_cons_succ, List.getElem_cons_zero, List.setIfInBounds_toArray, List.set_cons_zero, List.set_cons_succ]
      refine wpAnyH_ready (rs := [13]) (by kernel_rfl) (by simp) ?_
      refine AllReadyH.cons rfl (fun K hK => ?_) AllReadyH.nil
      · simp only [List.getElem_toArray, List.getElem_cons_succ, List.getElem_cons_zero]
        go_simp
        refine hK.out _ _ (RP.alloc (by assumption) _) (fun hHeld => ?_)
        clear hK K
        try simp only [Act.put, List.getElem_toArray, List.getElem_cons_succ, List.getElem_cons_zero, List.setIfInBounds_toArray, List.set_cons_zero, List.set_cons_succ]
        refine wpAnyH_done (by kernel_rfl) ?_ _
        have hF := Lib.hid (RF.new hHeld)
        clear hHeld
        (try clear c0 c1 c2 c3 fz hblk)
        generalize World.alloc _ _ = wE at hF ⊢
        obtain ⟨c0, c1, c2, c3, fz⟩ := cells4' hF.out.2
        go_wp2_with fail
        refine (rput_any x2.toNat x3.toNat nx (b.drop 16) _ (by omega)).mono ?_
        rintro en w3 ⟨rfl, h3⟩
        rw [hpv.out]
        clear c0 c1 c2 c3 fz
        have hF3 := Lib.hid (hF.out.more h3)
        clear hF h3
        have hrp := Lib.hid hF3.out.1
        obtain ⟨p0, p1, p2, p3, pz⟩ := cells4' hF3.out.2
        obtain ⟨c0, c1, c2, c3, fz⟩ := cells4' hrp.out.1
        go_wp2
        refine bodyPost_ret (v := .tuple #[.agg #[.int .i64 x2.toNat, .int .i64 x3.toNat, .int .i64 nx, .string (mk (b.drop 16))], .bool true]) (by simp [results, Tryd.results13, go_sem, c0, c1, c2, c3]) rfl ⟨rfl, ?_⟩
        exact ((((hrp.out.2.setCell (Nat.le_refl _) _).setCell (Nat.le_refl _) _).setCell (Nat.le_refl _) _).setCell (Nat.le_refl _) _)
  · simp only [List.getElem_toArray, List.getElem_cons_succ, List.getElem_cons_zero]
    go_simp
    refine hK.out _ _ (RP.alloc (by assumption) _) (fun hHeld => ?_)
    clear hK K
    try simp only [Act.put, List.getElem_toArray, List.getElem_cons_succ, List.getElem_cons_zero, List.setIfInBounds_toArray, List.set_cons_zero, List.set_cons_succ]
    refine wpAnyH_ready (rs := [8]) (by kernel_rfl) (by simp) ?_
    refine AllReadyH.cons rfl (fun K hK => ?_) AllReadyH.nil
    · simp only [List.getElem_toArray, List.getElem_cons_succ, List.getElem_cons_zero]
      go_simp
      (go_at_call 19; refine (hof.out _).mono ?_; rintro en wq ⟨rfl, hb⟩)
      refine hK.out _ _ ((by first | exact RP.more hHeld hb | exact RP.more (RP.alloc hHeld _) hb | exact RP.more (RP.drew hHeld) hb | exact RP.more hHeld.drew hb)) (fun hHeld => ?_)
      clear hK K
      try simp only [Act.put, List.getElem_toArray, List.getElem_cons_succ, List.getElem_cons_zero, List.setIfInBounds_toArray, List.set_cons_zero, List.set_cons_succ]
      have hblk := (by first | exact blk1 hb | exact blk1' hb)
      obtain ⟨c0, c1, c2, c3, fz⟩ := cells4' hblk
      clear hb
      refine wpAnyH_take (i := 11) (v := ?_) rfl (by kernel_rfl) (by kernel_rfl) (by kernel_rfl) (fun _ _ _ h => h) (Or.inl ⟨by rfl, ?_⟩) (by assumption) ?_
      rotate_left
      · (intro wS hSw; (try dsimp only at hSw); go_simp; (try with_reducible rfl))
      try simp only [Act.put, List.getElem_toArray, List.getElem_cons_succ, List.getElem_cons_zero, List.setIfInBounds_toArray, List.set_cons_zero, List.set_cons_succ]
      refine wpAnyH_ready (rs := [13]) (by kernel_rfl) (by simp) ?_
      refine AllReadyH.cons rfl (fun K hK => ?_) AllReadyH.nil
      · simp only [List.getElem_toArray, List.getElem_cons_succ, List.getElem_cons_zero]
        go_simp
        refine hK.out _ _ (RP.set4 (by assumption) (by have := hsz.out; omega)) (fun hHeld => ?_)
        clear hK K
        try simp only [Act.put, List.getElem_toArray, List.getElem_cons_succ, List.getElem_cons_zero, List.setIfInBounds_toArray, List.set_cons_zero, List.set_cons_succ]
        refine wpAnyH_done (by kernel_rfl) ?_ _
        have hF := Lib.hid (RF.set hblk hHeld)
        clear hHeld
        (try clear c0 c1 c2 c3 fz hblk)
        generalize World.setCell _ _ _ = wE at hF ⊢
        obtain ⟨c0, c1, c2, c3, fz⟩ := cells4' hF.out.2
        go_wp2_with fail
        refine (rput_any x2.toNat x3.toNat nx (b.drop 16) _ (by omega)).mono ?_
        rintro en w3 ⟨rfl, h3⟩
        rw [hpv.out]
        clear c0 c1 c2 c3 fz
        have hF3 := Lib.hid (hF.out.more h3)
        clear hF h3
        have hrp := Lib.hid hF3.out.1
        obtain ⟨p0, p1, p2, p3, pz⟩ := cells4' hF3.out.2
        obtain ⟨c0, c1, c2, c3, fz⟩ := cells4' hrp.out.1
        go_wp2
        refine bodyPost_ret (v := .tuple #[.agg #[.int .i64 x2.toNat, .int .i64 x3.toNat, .int .i64 nx, .string (mk (b.drop 16))], .bool true]) (by simp [results, Tryd.results13, go_sem, c0, c1, c2, c3]) rfl ⟨rfl, ?_⟩
        exact ((((hrp.out.2.setCell (Nat.le_refl _) _).setCell (Nat.le_refl _) _).setCell (Nat.le_refl _) _).setCell (Nat.le_refl _) _)
set_option maxRecDepth 100000 in
set_option maxHeartbeats 1600000 in
theorem rget_no1 (b : List UInt8) (w : World) (h : b.length = 256) (hz0 : b ≠ zs 256) (hpv : putV (pgOf b) = .tuple #[.string ByteArray.empty, .bool false]) :
    Calls Tryd.prog 13 #[.string (mk b)] w fun en w' => en = .returned (pgV none) ∧ Below w.heap.size w w' := by
  have hz : (b == zs 256) = false := by rw [beq_eq_false_iff_ne]; exact hz0
  clear hz0
  have h16 : 16 ≤ b.length := by omega
  have hbl : b.length ≤ 256 := by omega
  obtain ⟨x2, hx2⟩ : ∃ x, x = b.getD 2 0 := ⟨_, rfl⟩
  obtain ⟨x3, hx3⟩ : ∃ x, x = b.getD 3 0 := ⟨_, rfl⟩
  obtain ⟨x4, hx4⟩ : ∃ x, x = b.getD 4 0 := ⟨_, rfl⟩
  obtain ⟨x5, hx5⟩ : ∃ x, x = b.getD 5 0 := ⟨_, rfl⟩
  have hi2 := idx b 2 2 x2.toNat rfl (by omega) (by rw [hx2])
  have hi3 := idx b 3 3 x3.toNat rfl (by omega) (by rw [hx3])
  have hsm : ∀ w, (Instr.slice 9 (.string (mk b)) (some (.int .i64 4)) (some (.int .i64 6)) none).run Tryd.prog w = .ok (.string (mk [x4, x5])) w := fun w => by rw [hx4, hx5, ← two_mid b h]; exact sl_mid b 4 2 4 6 rfl rfl (by omega) w
  have hsf := sl_from b 16 16 rfl (by omega)
  have u2 := x2.toNat_lt
  have u3 := x3.toNat_lt
  have hw2 : IntKind.i64.wrap (x2.toNat : Int) = x2.toNat := IntWalk.i64_in _ (by omega)
  have hw3 : IntKind.i64.wrap (x3.toNat : Int) = x3.toNat := IntWalk.i64_in _ (by omega)
  obtain ⟨nx, hnx⟩ : ∃ nx : Int, nx = (x4.toNat * 256 + x5.toNat : Int) := ⟨_, rfl⟩
  have hpg : pgOf b = ⟨x2.toNat, x3.toNat, nx, b.drop 16⟩ := by rw [pgOf, hx2, hx3, hnx, hx4, hx5]
  rw [hpg] at hpv
  try rw [hpg]
  replace hpv := Lib.hid hpv
  have hof := fun w => of_two x4 x5 w
  rw [← hnx] at hof
  replace hof := Lib.hid hof
  replace hpg := Lib.hid hpg
  replace hnx := Lib.hid hnx
  replace hx2 := Lib.hid hx2
  replace hx3 := Lib.hid hx3
  replace hx4 := Lib.hid hx4
  replace hx5 := Lib.hid hx5
  have hne : ((b.length : Int) != 256) = false := by rw [bne_eq_false_iff_eq]; omega
  have hdl : (b.drop 16).length ≤ 1000 := by rw [List.length_drop]; omega
  replace h := Lib.hid h
  go_enter Tryd.func13, Tryd.ntmps13
  go_wp2_with fail
  refine (rz 256 256 _ rfl (by omega)).mono ?_
  rintro en w1 ⟨rfl, h1⟩
  have hrp := Lib.hid ((RP.start w).more h1)
  clear h1
  go_wp2
  have hsz := Lib.hid (show w.heap.size < w1.heap.size from lt_of hrp.out.1)
  refine wp_region_held_drew (S := RP w) (by kernel_rfl) hrp.out.drew (fun hHeld => ?_)
  refine wpAnyH_take (i := 0) (v := ?_) rfl (by kernel_rfl) (by kernel_rfl) (by kernel_rfl) (fun _ _ _ h => h) (Or.inl ⟨by rfl, ?_⟩) (by assumption) ?_
  rotate_left
  · (intro wS hSw; (try dsimp only at hSw); go_simp; (try with_reducible rfl))
  try simp only [Act.put, List.getElem_toArray, List.getElem_cons_zero, List.setIfInBounds_toArray, List.set_cons_zero, List.set_cons_succ]
  refine wpAnyH_take (i := 1) (v := ?_) rfl (by kernel_rfl) (by kernel_rfl) (by kernel_rfl) (fun _ _ _ h => h) (Or.inl ⟨by rfl, ?_⟩) (by assumption) ?_
  rotate_left
  · (intro wS hSw; (try dsimp only at hSw); go_simp; (try with_reducible rfl))
  try simp only [Act.put, List.getElem_toArray, List.getElem_cons_succ, List.getElem_cons_zero, List.setIfInBounds_toArray, List.set_cons_zero, List.set_cons_succ]
  refine wpAnyH_take (i := 2) (v := ?_) rfl (by kernel_rfl) (by kernel_rfl) (by kernel_rfl) (fun _ _ _ h => h) (Or.inl ⟨by rfl, ?_⟩) (by assumption) ?_
  rotate_left
  · (intro wS hSw; (try dsimp only at hSw); go_simp; (try with_reducible rfl))
  try simp only [Act.put, List.getElem_toArray, List.getElem_cons_succ, List.getElem_cons_zero, List.setIfInBounds_toArray, List.set_cons_zero, List.set_cons_succ]
  refine wpAnyH_take (i := 3) (v := ?_) rfl (by kernel_rfl) (by kernel_rfl) (by kernel_rfl) (fun _ _ _ h => h) (Or.inl ⟨by rfl, ?_⟩) (by assumption) ?_
  rotate_left
  · (intro wS hSw; (try dsimp only at hSw); go_simp; (try with_reducible rfl))
  try simp only [Act.put, List.getElem_toArray, List.getElem_cons_succ, List.getElem_cons_zero, List.setIfInBounds_toArray, List.set_cons_zero, List.set_cons_succ]
  refine wpAnyH_take (i := 4) (v := ?_) rfl (by kernel_rfl) (by kernel_rfl) (by kernel_rfl) (fun _ _ _ h => h) (Or.inl ⟨by rfl, ?_⟩) (by assumption) ?_
  rotate_left
  · (intro wS hSw; (try dsimp only at hSw); go_simp; (try with_reducible rfl))
  try simp only [Act.put, List.getElem_toArray, List.getElem_cons_succ, List.getElem_cons_zero, List.setIfInBounds_toArray, List.set_cons_zero, List.set_cons_succ]
  refine wpAnyH_take (i := 5) (v := ?_) rfl (by kernel_rfl) (by kernel_rfl) (by kernel_rfl) (fun _ _ _ h => h) (Or.inl ⟨by rfl, ?_⟩) (by assumption) ?_
  rotate_left
  · (intro wS hSw; (try dsimp only at hSw); go_simp; (try with_reducible rfl))
  try simp only [Act.put, List.getElem_toArray, List.getElem_cons_succ, List.getElem_cons_zero, List.setIfInBounds_toArray, List.set_cons_zero, List.set_cons_succ]
  refine wpAnyH_take (i := 6) (v := ?_) rfl (by kernel_rfl) (by kernel_rfl) (by kernel_rfl) (fun _ _ _ h => h) (Or.inl ⟨by rfl, ?_⟩) (by assumption) ?_
  rotate_left
  · (intro wS hSw; (try dsimp only at hSw); go_simp; (try with_reducible rfl))
  try simp only [Act.put, List.getElem_toArray, List.getElem_cons_succ, List.getElem_cons_zero, List.setIfInBounds_toArray, List.set_cons_zero, List.set_cons_succ]
  refine wpAnyH_take (i := 7) (v := ?_) rfl (by kernel_rfl) (by kernel_rfl) (by kernel_rfl) (fun _ _ _ h => h) (Or.inl ⟨by rfl, ?_⟩) (by assumption) ?_
  rotate_left
  · (intro wS hSw; (try dsimp only at hSw); go_simp; (try with_reducible rfl))
  try simp only [Act.put, List.getElem_toArray, List.getElem_cons_succ, List.getElem_cons_zero, List.setIfInBounds_toArray, List.set_cons_zero, List.set_cons_succ]
  refine wpAnyH_take (i := 9) (v := ?_) rfl (by kernel_rfl) (by kernel_rfl) (by kernel_rfl) (fun _ _ _ h => h) (Or.inl ⟨by rfl, ?_⟩) (by assumption) ?_
  rotate_left
  · (intro wS hSw; (try dsimp only at hSw); go_simp; (try with_reducible rfl))
  try simp only [Act.put, List.getElem_toArray, List.getElem_cons_succ, List.getElem_cons_zero, List.setIfInBounds_toArray, List.set_cons_zero, List.set_cons_succ]
  refine wpAnyH_take (i := 10) (v := ?_) rfl (by kernel_rfl) (by kernel_rfl) (by kernel_rfl) (fun _ _ _ h => h) (Or.inl ⟨by rfl, ?_⟩) (by assumption) ?_
  rotate_left
  · (intro wS hSw; (try dsimp only at hSw); go_simp; (try with_reducible rfl))
  try simp only [Act.put, List.getElem_toArray, List.getElem_cons_succ, List.getElem_cons_zero, List.setIfInBounds_toArray, List.set_cons_zero, List.set_cons_succ]
  refine wpAnyH_ready (rs := [8, 12]) (by kernel_rfl) (by simp) ?_
  refine AllReadyH.cons rfl (fun K hK => ?_) (AllReadyH.cons rfl (fun K hK => ?_) AllReadyH.nil)
  · simp only [List.getElem_toArray, List.getElem_cons_succ, List.getElem_cons_zero]
    go_simp
    (go_at_call 19; refine (hof.out _).mono ?_; rintro en wq ⟨rfl, hb⟩)
    refine hK.out _ _ ((by first | exact RP.more hHeld hb | exact RP.more (RP.alloc hHeld _) hb | exact RP.more (RP.drew hHeld) hb | exact RP.more hHeld.drew hb)) (fun hHeld => ?_)
    clear hK K
    try simp only [Act.put, List.getElem_toArray, List.getElem_cons_succ, List.getElem_cons_zero, List.setIfInBounds_toArray, List.set_cons_zero, List.set_cons_succ]
    clear hb
    refine wpAnyH_take (i := 11) (v := ?_) rfl (by kernel_rfl) (by kernel_rfl) (by kernel_rfl) (fun _ _ _ h => h) (Or.inl ⟨by rfl, ?_⟩) (by assumption) ?_
    rotate_left
    · (intro wS hSw; (try dsimp only at hSw); go_simp; (try with_reducible rfl))
    try simp only [Act.put, List.getElem_toArray, List.getElem_cons_succ, List.getElem_cons_zero, List.setIfInBounds_toArray, List.set_cons_zero, List.set_cons_succ]
    refine wpAnyH_ready (rs := [12]) (by kernel_rfl) (by simp) ?_
    refine AllReadyH.cons rfl (fun K hK => ?_) AllReadyH.nil
    · simp only [List.getElem_toArray, List.getElem_cons_succ, List.getElem_cons_zero]
      go_simp
      refine hK.out _ _ (RP.alloc (by assumption) _) (fun hHeld => ?_)
      clear hK K
      try simp only [Act.put, List.getElem_toArray, List.getElem_cons_succ, List.getElem_cons_zero, List.setIfInBounds_toArray, List.set_cons_zero, List.set_cons_succ]
      refine wpAnyH_ready (rs := [13]) (by kernel_rfl) (by simp) ?_
      refine AllReadyH.cons rfl (fun K hK => ?_) AllReadyH.nil
      · simp only [List.getElem_toArray, List.getElem_cons_succ, List.getElem_cons_zero]
        go_simp
        refine hK.out _ _ (RP.alloc (by assumption) _) (fun hHeld => ?_)
        clear hK K
        try simp only [Act.put, List.getElem_toArray, List.getElem_cons_succ, List.getElem_cons_zero, List.setIfInBounds_toArray, List.set_cons_zero, List.set_cons_succ]
        refine wpAnyH_done (by kernel_rfl) ?_ _
        have hF := Lib.hid (RF.new hHeld)
        clear hHeld
        (try clear c0 c1 c2 c3 fz hblk)
        generalize World.alloc _ _ = wE at hF ⊢
        obtain ⟨c0, c1, c2, c3, fz⟩ := cells4' hF.out.2
        go_wp2_with fail
        refine (rput_any x2.toNat x3.toNat nx (b.drop 16) _ (by omega)).mono ?_
        rintro en w3 ⟨rfl, h3⟩
        rw [hpv.out]
        clear c0 c1 c2 c3 fz
        have hF3 := Lib.hid (hF.out.more h3)
        clear hF h3
        have hrp := Lib.hid hF3.out.1
        obtain ⟨p0, p1, p2, p3, pz⟩ := cells4' hF3.out.2
        obtain ⟨c0, c1, c2, c3, fz⟩ := cells4' hrp.out.1
        go_wp2
        refine bodyPost_ret (v := .tuple #[.agg #[.int .i64 0, .int .i64 0, .int .i64 0, .string ⟨#[]⟩], .bool false]) (by simp [results, Tryd.results13, go_sem, c0, c1, c2, c3]) rfl ⟨rfl, ?_⟩
        exact ((((hrp.out.2.setCell (Nat.le_refl _) _).setCell (Nat.le_refl _) _).setCell (Nat.le_refl _) _).setCell (Nat.le_refl _) _)
  · simp only [List.getElem_toArray, List.getElem_cons_succ, List.getElem_cons_zero]
    go_simp
    refine hK.out _ _ (RP.alloc (by assumption) _) (fun hHeld => ?_)
    clear hK K
    try simp only [Act.put, List.getElem_toArray, List.getElem_cons_succ, List.getElem_cons_zero, List.setIfInBounds_toArray, List.set_cons_zero, List.set_cons_succ]
    refine wpAnyH_ready (rs := [8]) (by kernel_rfl) (by simp) ?_
    refine AllReadyH.cons rfl (fun K hK => ?_) AllReadyH.nil
    · simp only [List.getElem_toArray, List.getElem_cons_succ, List.getElem_cons_zero]
      go_simp
      (go_at_call 19; refine (hof.out _).mono ?_; rintro en wq ⟨rfl, hb⟩)
      refine hK.out _ _ ((by first | exact RP.more hHeld hb | exact RP.more (RP.alloc hHeld _) hb | exact RP.more (RP.drew hHeld) hb | exact RP.more hHeld.drew hb)) (fun hHeld => ?_)
      clear hK K
      try simp only [Act.put, List.getElem_toArray, List.getElem_cons_succ, List.getElem_cons_zero, List.setIfInBounds_toArray, List.set_cons_zero, List.set_cons_succ]
      have hblk := (by first | exact blk1 hb | exact blk1' hb)
      obtain ⟨c0, c1, c2, c3, fz⟩ := cells4' hblk
      clear hb
      refine wpAnyH_take (i := 11) (v := ?_) rfl (by kernel_rfl) (by kernel_rfl) (by kernel_rfl) (fun _ _ _ h => h) (Or.inl ⟨by rfl, ?_⟩) (by assumption) ?_
      rotate_left
      · (intro wS hSw; (try dsimp only at hSw); go_simp; (try with_reducible rfl))
      try simp only [Act.put, List.getElem_toArray, List.getElem_cons_succ, List.getElem_cons_zero, List.setIfInBounds_toArray, List.set_cons_zero, List.set_cons_succ]
      refine wpAnyH_ready (rs := [13]) (by kernel_rfl) (by simp) ?_
      refine AllReadyH.cons rfl (fun K hK => ?_) AllReadyH.nil
      · simp only [List.getElem_toArray, List.getElem_cons_succ, List.getElem_cons_zero]
        go_simp
        refine hK.out _ _ (RP.set4 (by assumption) (by have := hsz.out; omega)) (fun hHeld => ?_)
        clear hK K
        try simp only [Act.put, List.getElem_toArray, List.getElem_cons_succ, List.getElem_cons_zero, List.setIfInBounds_toArray, List.set_cons_zero, List.set_cons_succ]
        refine wpAnyH_done (by kernel_rfl) ?_ _
        have hF := Lib.hid (RF.set hblk hHeld)
        clear hHeld
        (try clear c0 c1 c2 c3 fz hblk)
        generalize World.setCell _ _ _ = wE at hF ⊢
        obtain ⟨c0, c1, c2, c3, fz⟩ := cells4' hF.out.2
        go_wp2_with fail
        refine (rput_any x2.toNat x3.toNat nx (b.drop 16) _ (by omega)).mono ?_
        rintro en w3 ⟨rfl, h3⟩
        rw [hpv.out]
        clear c0 c1 c2 c3 fz
        have hF3 := Lib.hid (hF.out.more h3)
        clear hF h3
        have hrp := Lib.hid hF3.out.1
        obtain ⟨p0, p1, p2, p3, pz⟩ := cells4' hF3.out.2
        obtain ⟨c0, c1, c2, c3, fz⟩ := cells4' hrp.out.1
        go_wp2
        refine bodyPost_ret (v := .tuple #[.agg #[.int .i64 0, .int .i64 0, .int .i64 0, .string ⟨#[]⟩], .bool false]) (by simp [results, Tryd.results13, go_sem, c0, c1, c2, c3]) rfl ⟨rfl, ?_⟩
        exact ((((hrp.out.2.setCell (Nat.le_refl _) _).setCell (Nat.le_refl _) _).setCell (Nat.le_refl _) _).setCell (Nat.le_refl _) _)
set_option maxRecDepth 100000 in
set_option maxHeartbeats 1600000 in
theorem rget_no2 (b : List UInt8) (w : World) (h : b.length = 256) (hz0 : b ≠ zs 256) (s : List UInt8) (hsb : (s == b) = false) (hpv : putV (pgOf b) = .tuple #[.string (mk s), .bool true]) :
    Calls Tryd.prog 13 #[.string (mk b)] w fun en w' => en = .returned (pgV none) ∧ Below w.heap.size w w' := by
  have hz : (b == zs 256) = false := by rw [beq_eq_false_iff_ne]; exact hz0
  clear hz0
  have h16 : 16 ≤ b.length := by omega
  have hbl : b.length ≤ 256 := by omega
  obtain ⟨x2, hx2⟩ : ∃ x, x = b.getD 2 0 := ⟨_, rfl⟩
  obtain ⟨x3, hx3⟩ : ∃ x, x = b.getD 3 0 := ⟨_, rfl⟩
  obtain ⟨x4, hx4⟩ : ∃ x, x = b.getD 4 0 := ⟨_, rfl⟩
  obtain ⟨x5, hx5⟩ : ∃ x, x = b.getD 5 0 := ⟨_, rfl⟩
  have hi2 := idx b 2 2 x2.toNat rfl (by omega) (by rw [hx2])
  have hi3 := idx b 3 3 x3.toNat rfl (by omega) (by rw [hx3])
  have hsm : ∀ w, (Instr.slice 9 (.string (mk b)) (some (.int .i64 4)) (some (.int .i64 6)) none).run Tryd.prog w = .ok (.string (mk [x4, x5])) w := fun w => by rw [hx4, hx5, ← two_mid b h]; exact sl_mid b 4 2 4 6 rfl rfl (by omega) w
  have hsf := sl_from b 16 16 rfl (by omega)
  have u2 := x2.toNat_lt
  have u3 := x3.toNat_lt
  have hw2 : IntKind.i64.wrap (x2.toNat : Int) = x2.toNat := IntWalk.i64_in _ (by omega)
  have hw3 : IntKind.i64.wrap (x3.toNat : Int) = x3.toNat := IntWalk.i64_in _ (by omega)
  obtain ⟨nx, hnx⟩ : ∃ nx : Int, nx = (x4.toNat * 256 + x5.toNat : Int) := ⟨_, rfl⟩
  have hpg : pgOf b = ⟨x2.toNat, x3.toNat, nx, b.drop 16⟩ := by rw [pgOf, hx2, hx3, hnx, hx4, hx5]
  rw [hpg] at hpv
  try rw [hpg]
  replace hpv := Lib.hid hpv
  have hof := fun w => of_two x4 x5 w
  rw [← hnx] at hof
  replace hof := Lib.hid hof
  replace hpg := Lib.hid hpg
  replace hnx := Lib.hid hnx
  replace hx2 := Lib.hid hx2
  replace hx3 := Lib.hid hx3
  replace hx4 := Lib.hid hx4
  replace hx5 := Lib.hid hx5
  have hne : ((b.length : Int) != 256) = false := by rw [bne_eq_false_iff_eq]; omega
  have hdl : (b.drop 16).length ≤ 1000 := by rw [List.length_drop]; omega
  replace h := Lib.hid h
  go_enter Tryd.func13, Tryd.ntmps13
  go_wp2_with fail
  refine (rz 256 256 _ rfl (by omega)).mono ?_
  rintro en w1 ⟨rfl, h1⟩
  have hrp := Lib.hid ((RP.start w).more h1)
  clear h1
  go_wp2
  have hsz := Lib.hid (show w.heap.size < w1.heap.size from lt_of hrp.out.1)
  refine wp_region_held_drew (S := RP w) (by kernel_rfl) hrp.out.drew (fun hHeld => ?_)
  refine wpAnyH_take (i := 0) (v := ?_) rfl (by kernel_rfl) (by kernel_rfl) (by kernel_rfl) (fun _ _ _ h => h) (Or.inl ⟨by rfl, ?_⟩) (by assumption) ?_
  rotate_left
  · (intro wS hSw; (try dsimp only at hSw); go_simp; (try with_reducible rfl))
  try simp only [Act.put, List.getElem_toArray, List.getElem_cons_zero, List.setIfInBounds_toArray, List.set_cons_zero, List.set_cons_succ]
  refine wpAnyH_take (i := 1) (v := ?_) rfl (by kernel_rfl) (by kernel_rfl) (by kernel_rfl) (fun _ _ _ h => h) (Or.inl ⟨by rfl, ?_⟩) (by assumption) ?_
  rotate_left
  · (intro wS hSw; (try dsimp only at hSw); go_simp; (try with_reducible rfl))
  try simp only [Act.put, List.getElem_toArray, List.getElem_cons_succ, List.getElem_cons_zero, List.setIfInBounds_toArray, List.set_cons_zero, List.set_cons_succ]
  refine wpAnyH_take (i := 2) (v := ?_) rfl (by kernel_rfl) (by kernel_rfl) (by kernel_rfl) (fun _ _ _ h => h) (Or.inl ⟨by rfl, ?_⟩) (by assumption) ?_
  rotate_left
  · (intro wS hSw; (try dsimp only at hSw); go_simp; (try with_reducible rfl))
  try simp only [Act.put, List.getElem_toArray, List.getElem_cons_succ, List.getElem_cons_zero, List.setIfInBounds_toArray, List.set_cons_zero, List.set_cons_succ]
  refine wpAnyH_take (i := 3) (v := ?_) rfl (by kernel_rfl) (by kernel_rfl) (by kernel_rfl) (fun _ _ _ h => h) (Or.inl ⟨by rfl, ?_⟩) (by assumption) ?_
  rotate_left
  · (intro wS hSw; (try dsimp only at hSw); go_simp; (try with_reducible rfl))
  try simp only [Act.put, List.getElem_toArray, List.getElem_cons_succ, List.getElem_cons_zero, List.setIfInBounds_toArray, List.set_cons_zero, List.set_cons_succ]
  refine wpAnyH_take (i := 4) (v := ?_) rfl (by kernel_rfl) (by kernel_rfl) (by kernel_rfl) (fun _ _ _ h => h) (Or.inl ⟨by rfl, ?_⟩) (by assumption) ?_
  rotate_left
  · (intro wS hSw; (try dsimp only at hSw); go_simp; (try with_reducible rfl))
  try simp only [Act.put, List.getElem_toArray, List.getElem_cons_succ, List.getElem_cons_zero, List.setIfInBounds_toArray, List.set_cons_zero, List.set_cons_succ]
  refine wpAnyH_take (i := 5) (v := ?_) rfl (by kernel_rfl) (by kernel_rfl) (by kernel_rfl) (fun _ _ _ h => h) (Or.inl ⟨by rfl, ?_⟩) (by assumption) ?_
  rotate_left
  · (intro wS hSw; (try dsimp only at hSw); go_simp; (try with_reducible rfl))
  try simp only [Act.put, List.getElem_toArray, List.getElem_cons_succ, List.getElem_cons_zero, List.setIfInBounds_toArray, List.set_cons_zero, List.set_cons_succ]
  refine wpAnyH_take (i := 6) (v := ?_) rfl (by kernel_rfl) (by kernel_rfl) (by kernel_rfl) (fun _ _ _ h => h) (Or.inl ⟨by rfl, ?_⟩) (by assumption) ?_
  rotate_left
  · (intro wS hSw; (try dsimp only at hSw); go_simp; (try with_reducible rfl))
  try simp only [Act.put, List.getElem_toArray, List.getElem_cons_succ, List.getElem_cons_zero, List.setIfInBounds_toArray, List.set_cons_zero, List.set_cons_succ]
  refine wpAnyH_take (i := 7) (v := ?_) rfl (by kernel_rfl) (by kernel_rfl) (by kernel_rfl) (fun _ _ _ h => h) (Or.inl ⟨by rfl, ?_⟩) (by assumption) ?_
  rotate_left
  · (intro wS hSw; (try dsimp only at hSw); go_simp; (try with_reducible rfl))
  try simp only [Act.put, List.getElem_toArray, List.getElem_cons_succ, List.getElem_cons_zero, List.setIfInBounds_toArray, List.set_cons_zero, List.set_cons_succ]
  refine wpAnyH_take (i := 9) (v := ?_) rfl (by kernel_rfl) (by kernel_rfl) (by kernel_rfl) (fun _ _ _ h => h) (Or.inl ⟨by rfl, ?_⟩) (by assumption) ?_
  rotate_left
  · (intro wS hSw; (try dsimp only at hSw); go_simp; (try with_reducible rfl))
  try simp only [Act.put, List.getElem_toArray, List.getElem_cons_succ, List.getElem_cons_zero, List.setIfInBounds_toArray, List.set_cons_zero, List.set_cons_succ]
  refine wpAnyH_take (i := 10) (v := ?_) rfl (by kernel_rfl) (by kernel_rfl) (by kernel_rfl) (fun _ _ _ h => h) (Or.inl ⟨by rfl, ?_⟩) (by assumption) ?_
  rotate_left
  · (intro wS hSw; (try dsimp only at hSw); go_simp; (try with_reducible rfl))
  try simp only [Act.put, List.getElem_toArray, List.getElem_cons_succ, List.getElem_cons_zero, List.setIfInBounds_toArray, List.set_cons_zero, List.set_cons_succ]
  refine wpAnyH_ready (rs := [8, 12]) (by kernel_rfl) (by simp) ?_
  refine AllReadyH.cons rfl (fun K hK => ?_) (AllReadyH.cons rfl (fun K hK => ?_) AllReadyH.nil)
  · simp only [List.getElem_toArray, List.getElem_cons_succ, List.getElem_cons_zero]
    go_simp
    (go_at_call 19; refine (hof.out _).mono ?_; rintro en wq ⟨rfl, hb⟩)
    refine hK.out _ _ ((by first | exact RP.more hHeld hb | exact RP.more (RP.alloc hHeld _) hb | exact RP.more (RP.drew hHeld) hb | exact RP.more hHeld.drew hb)) (fun hHeld => ?_)
    clear hK K
    try simp only [Act.put, List.getElem_toArray, List.getElem_cons_succ, List.getElem_cons_zero, List.setIfInBounds_toArray, List.set_cons_zero, List.set_cons_succ]
    clear hb
    refine wpAnyH_take (i := 11) (v := ?_) rfl (by kernel_rfl) (by kernel_rfl) (by kernel_rfl) (fun _ _ _ h => h) (Or.inl ⟨by rfl, ?_⟩) (by assumption) ?_
    rotate_left
    · (intro wS hSw; (try dsimp only at hSw); go_simp; (try with_reducible rfl))
    try simp only [Act.put, List.getElem_toArray, List.getElem_cons_succ, List.getElem_cons_zero, List.setIfInBounds_toArray, List.set_cons_zero, List.set_cons_succ]
    refine wpAnyH_ready (rs := [12]) (by kernel_rfl) (by simp) ?_
    refine AllReadyH.cons rfl (fun K hK => ?_) AllReadyH.nil
    · simp only [List.getElem_toArray, List.getElem_cons_succ, List.getElem_cons_zero]
      go_simp
      refine hK.out _ _ (RP.alloc (by assumption) _) (fun hHeld => ?_)
      clear hK K
      try simp only [Act.put, List.getElem_toArray, List.getElem_cons_succ, List.getElem_cons_zero, List.setIfInBounds_toArray, List.set_cons_zero, List.set_cons_succ]
      refine wpAnyH_ready (rs := [13]) (by kernel_rfl) (by simp) ?_
      refine AllReadyH.cons rfl (fun K hK => ?_) AllReadyH.nil
      · simp only [List.getElem_toArray, List.getElem_cons_succ, List.getElem_cons_zero]
        go_simp
        refine hK.out _ _ (RP.alloc (by assumption) _) (fun hHeld => ?_)
        clear hK K
        try simp only [Act.put, List.getElem_toArray, List.getElem_cons_succ, List.getElem_cons_zero, List.setIfInBounds_toArray, List.set_cons_zero, List.set_cons_succ]
        refine wpAnyH_done (by kernel_rfl) ?_ _
        have hF := Lib.hid (RF.new hHeld)
        clear hHeld
        (try clear c0 c1 c2 c3 fz hblk)
        generalize World.alloc _ _ = wE at hF ⊢
        obtain ⟨c0, c1, c2, c3, fz⟩ := cells4' hF.out.2
        go_wp2_with fail
        refine (rput_any x2.toNat x3.toNat nx (b.drop 16) _ (by omega)).mono ?_
        rintro en w3 ⟨rfl, h3⟩
        rw [hpv.out]
        clear c0 c1 c2 c3 fz
        have hF3 := Lib.hid (hF.out.more h3)
        clear hF h3
        have hrp := Lib.hid hF3.out.1
        obtain ⟨p0, p1, p2, p3, pz⟩ := cells4' hF3.out.2
        obtain ⟨c0, c1, c2, c3, fz⟩ := cells4' hrp.out.1
        go_wp2
        refine bodyPost_ret (v := .tuple #[.agg #[.int .i64 0, .int .i64 0, .int .i64 0, .string ⟨#[]⟩], .bool false]) (by simp [results, Tryd.results13, go_sem, c0, c1, c2, c3]) rfl ⟨rfl, ?_⟩
        exact ((((hrp.out.2.setCell (Nat.le_refl _) _).setCell (Nat.le_refl _) _).setCell (Nat.le_refl _) _).setCell (Nat.le_refl _) _)
  · simp only [List.getElem_toArray, List.getElem_cons_succ, List.getElem_cons_zero]
    go_simp
    refine hK.out _ _ (RP.alloc (by assumption) _) (fun hHeld => ?_)
    clear hK K
    try simp only [Act.put, List.getElem_toArray, List.getElem_cons_succ, List.getElem_cons_zero, List.setIfInBounds_toArray, List.set_cons_zero, List.set_cons_succ]
    refine wpAnyH_ready (rs := [8]) (by kernel_rfl) (by simp) ?_
    refine AllReadyH.cons rfl (fun K hK => ?_) AllReadyH.nil
    · simp only [List.getElem_toArray, List.getElem_cons_succ, List.getElem_cons_zero]
      go_simp
      (go_at_call 19; refine (hof.out _).mono ?_; rintro en wq ⟨rfl, hb⟩)
      refine hK.out _ _ ((by first | exact RP.more hHeld hb | exact RP.more (RP.alloc hHeld _) hb | exact RP.more (RP.drew hHeld) hb | exact RP.more hHeld.drew hb)) (fun hHeld => ?_)
      clear hK K
      try simp only [Act.put, List.getElem_toArray, List.getElem_cons_succ, List.getElem_cons_zero, List.setIfInBounds_toArray, List.set_cons_zero, List.set_cons_succ]
      have hblk := (by first | exact blk1 hb | exact blk1' hb)
      obtain ⟨c0, c1, c2, c3, fz⟩ := cells4' hblk
      clear hb
      refine wpAnyH_take (i := 11) (v := ?_) rfl (by kernel_rfl) (by kernel_rfl) (by kernel_rfl) (fun _ _ _ h => h) (Or.inl ⟨by rfl, ?_⟩) (by assumption) ?_
      rotate_left
      · (intro wS hSw; (try dsimp only at hSw); go_simp; (try with_reducible rfl))
      try simp only [Act.put, List.getElem_toArray, List.getElem_cons_succ, List.getElem_cons_zero, List.setIfInBounds_toArray, List.set_cons_zero, List.set_cons_succ]
      refine wpAnyH_ready (rs := [13]) (by kernel_rfl) (by simp) ?_
      refine AllReadyH.cons rfl (fun K hK => ?_) AllReadyH.nil
      · simp only [List.getElem_toArray, List.getElem_cons_succ, List.getElem_cons_zero]
        go_simp
        refine hK.out _ _ (RP.set4 (by assumption) (by have := hsz.out; omega)) (fun hHeld => ?_)
        clear hK K
        try simp only [Act.put, List.getElem_toArray, List.getElem_cons_succ, List.getElem_cons_zero, List.setIfInBounds_toArray, List.set_cons_zero, List.set_cons_succ]
        refine wpAnyH_done (by kernel_rfl) ?_ _
        have hF := Lib.hid (RF.set hblk hHeld)
        clear hHeld
        (try clear c0 c1 c2 c3 fz hblk)
        generalize World.setCell _ _ _ = wE at hF ⊢
        obtain ⟨c0, c1, c2, c3, fz⟩ := cells4' hF.out.2
        go_wp2_with fail
        refine (rput_any x2.toNat x3.toNat nx (b.drop 16) _ (by omega)).mono ?_
        rintro en w3 ⟨rfl, h3⟩
        rw [hpv.out]
        clear c0 c1 c2 c3 fz
        have hF3 := Lib.hid (hF.out.more h3)
        clear hF h3
        have hrp := Lib.hid hF3.out.1
        obtain ⟨p0, p1, p2, p3, pz⟩ := cells4' hF3.out.2
        obtain ⟨c0, c1, c2, c3, fz⟩ := cells4' hrp.out.1
        go_wp2
        refine bodyPost_ret (v := .tuple #[.agg #[.int .i64 0, .int .i64 0, .int .i64 0, .string ⟨#[]⟩], .bool false]) (by simp [results, Tryd.results13, go_sem, c0, c1, c2, c3]) rfl ⟨rfl, ?_⟩
        exact ((((hrp.out.2.setCell (Nat.le_refl _) _).setCell (Nat.le_refl _) _).setCell (Nat.le_refl _) _).setCell (Nat.le_refl _) _)
theorem rget_any (b : List UInt8) (w : World) (hb : b.length ≤ 140737488351232) :
    Calls Tryd.prog 13 #[.string (mk b)] w fun en w' => en = .returned (pgV (pdec b)) ∧ Below w.heap.size w w' := by
  by_cases c1 : b.length = 256
  · by_cases c2 : b = zs 256
    · rw [pdec, if_pos c1, if_pos c2]
      exact rget_z b w c2
    · cases c3 : pgOk (pgOf b) with
      | true =>
        by_cases c4 : penc (pgOf b) = b
        · rw [pdec, if_pos c1, if_neg c2, if_pos ⟨c3, c4⟩]
          exact rget_yes b w c1 c2 (by rw [putV, if_pos c3, c4])
        · rw [pdec, if_pos c1, if_neg c2, if_neg (fun c => c4 c.2)]
          exact rget_no2 b w c1 c2 (penc (pgOf b)) (by rw [beq_eq_false_iff_ne]; exact c4) (by rw [putV, if_pos c3])
      | false =>
        rw [pdec, if_pos c1, if_neg c2, if_neg (fun c => by rw [c3] at c; cases c.1)]
        exact rget_no1 b w c1 c2 (by rw [putV, if_neg (by rw [c3]; decide)])
  · rw [pdec, if_neg c1]
    exact rget_short b w hb c1
end Go.Proofs.YtcmbofoddfhnjaaDoor
