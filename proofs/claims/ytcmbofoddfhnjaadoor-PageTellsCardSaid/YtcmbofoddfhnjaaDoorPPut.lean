/- Put of package page. No condition but the table of spaces. -/
import Derived.Test.YtcmbofoddfhnjaaDoorPFn
import Derived.Deep.RegionHeld3
import Derived.Deep.DrawnRows
import Derived.Outline
import Derived.Handy
namespace Go.Proofs.YtcmbofoddfhnjaaDoor
open Go.RowKit
attribute [local go_sem ↓] Go.wp_at_zero Go.wp_at_succ
attribute [local go_sem] mk_size

theorem wpAnyH_more {P : Program} {md : Region.Mode} {ops : Array Oper} {Q : Exit → Act → World → Prop} {S S' : World → Prop} (h : ∀ w, S' w → S w) : ∀ {fuel : Nat} {listed : Array Bool} {a : Act} {w : World}, wpAnyH P md ops Q S' fuel listed a w → wpAnyH P md ops Q S fuel listed a w
  | 0, _, _, _, hw => hw
  | _ + 1, _, _, _, hw => ⟨hw.1, fun i hi => wpOp_mono (fun _ _ h' => ⟨h _ h'.1, wpAnyH_more h h'.2⟩) (hw.2 i hi)⟩
theorem same_cell {w w' : World} {a : Addr} {v : Value} (hb : Below w.heap.size w w') (h : w.cell? a = some v) : w'.cell? a = some v :=
  (World.cell?_of_block (w := w) (hb.block _ (World.block_lt_of_cell? w _ h))).trans h
/-- What the region's loads read, and what was there. -/
def PgS (w0 : World) (k d n : Int) (body : List UInt8) (w : World) : Prop := w.cell? ⟨w0.heap.size, 0, none⟩ = some (.int .i64 k) ∧ w.cell? ⟨w0.heap.size, 1, none⟩ = some (.int .i64 d) ∧ w.cell? ⟨w0.heap.size, 2, none⟩ = some (.int .i64 n) ∧ w.cell? ⟨w0.heap.size, 3, none⟩ = some (.string (mk body)) ∧ Hid (Below w0.heap.size w0 w)
section
variable {w0 : World} {k d n : Int} {body : List UInt8} {w w' : World}
theorem PgS.start (w : World) (k d n : Int) (body : List UInt8) (t : TypeId) : PgS w k d n body (w.alloc (.cells #[.int .i64 k, .int .i64 d, .int .i64 n, .string (mk body)] t)) :=
  ⟨cell_of (heap_alloc_new w _) rfl, cell_of (heap_alloc_new w _) rfl, cell_of (heap_alloc_new w _) rfl, cell_of (heap_alloc_new w _) rfl, Lib.hid ((Below.refl _ _).alloc (Nat.le_refl _) _)⟩
theorem PgS.more (h : PgS w0 k d n body w) (hb : Below w.heap.size w w') : PgS w0 k d n body w' :=
  ⟨same_cell hb h.1, same_cell hb h.2.1, same_cell hb h.2.2.1, same_cell hb h.2.2.2.1, Lib.hid (h.2.2.2.2.out.trans (hb.mono h.2.2.2.2.out.size))⟩
theorem PgS.drew (h : PgS w0 k d n body w) : PgS w0 k d n body w.drew := h.more (Below.refl _ _).drew
theorem PgS.alloc (h : PgS w0 k d n body w) (o : Obj) : PgS w0 k d n body (w.alloc o) := h.more ((Below.refl _ _).alloc (Nat.le_refl _) _)
theorem zeros_S (h : PgS w0 k d n body w) : Calls Tryd.prog 17 #[.int .i64 10] w fun en w' => en = .returned (.string (mk (zs 10))) ∧ PgS w0 k d n body w' :=
  (zeros_any 10 10 w rfl (by omega)).mono fun _ _ ⟨he, hb⟩ => ⟨he, h.more hb⟩
/-- and a short row that was made. -/
def PgS4 (w0 : World) (k d n : Int) (body : List UInt8) (B : Nat) (x y z u : Value) (w : World) : Prop := PgS w0 k d n body w ∧ w.cell? ⟨B, 0, none⟩ = some x ∧ w.cell? ⟨B, 1, none⟩ = some y ∧ w.cell? ⟨B, 2, none⟩ = some z ∧ w.cell? ⟨B, 3, none⟩ = some u
theorem PgS.grow {x y z u : Value} {t : TypeId} (h : PgS w0 k d n body (w.alloc (.cells #[x, y, z, u] t))) : ∃ B, B = w.heap.size ∧ PgS4 w0 k d n body B x y z u (w.alloc (.cells #[x, y, z, u] t)) :=
  ⟨_, rfl, h, cell_of (heap_alloc_new w _) rfl, cell_of (heap_alloc_new w _) rfl, cell_of (heap_alloc_new w _) rfl, cell_of (heap_alloc_new w _) rfl⟩
theorem PgS.grow' {x y z u : Value} {t : TypeId} (h : PgS w0 k d n body (w.alloc (.cells #[x, y, z, u] t)).drew) : ∃ B, B = w.heap.size ∧ PgS4 w0 k d n body B x y z u (w.alloc (.cells #[x, y, z, u] t)).drew :=
  ⟨_, rfl, h, cell_of (heap_alloc_new w _) rfl, cell_of (heap_alloc_new w _) rfl, cell_of (heap_alloc_new w _) rfl, cell_of (heap_alloc_new w _) rfl⟩
theorem zeros_S4 {B : Nat} {x y z u : Value} (h : PgS4 w0 k d n body B x y z u w) : Calls Tryd.prog 17 #[.int .i64 10] w fun en w' => en = .returned (.string (mk (zs 10))) ∧ PgS4 w0 k d n body B x y z u w' :=
  (zeros_any 10 10 w rfl (by omega)).mono fun _ _ ⟨he, hb⟩ => ⟨he, h.1.more hb, same_cell hb h.2.1, same_cell hb h.2.2.1, same_cell hb h.2.2.2.1, same_cell hb h.2.2.2.2⟩
end
theorem conv4 (k d n : Nat) (hk : k < 256) (hd : d < 256) (hn : n < 256) (w : World) (b : Nat) (h0 : w.cell? ⟨b, 0, none⟩ = some (.int .u8 k)) (h1 : w.cell? ⟨b, 1, none⟩ = some (.int .u8 d)) (h2 : w.cell? ⟨b, 2, none⟩ = some (.int .u8 0)) (h3 : w.cell? ⟨b, 3, none⟩ = some (.int .u8 n)) :
    (convert 33 9 (.slice (some ⟨b, 0, none⟩) 4 4)).run Tryd.prog w = .ok (.string (mk [UInt8.ofNat k, UInt8.ofNat d, 0, UInt8.ofNat n])) w :=
  run_convert_bytes_back w 33 9 5 ⟨b, 0, none⟩ 4 [UInt8.ofNat k, UInt8.ofNat d, 0, UInt8.ofNat n] Tryd.underlying33 Tryd.underlying5 Tryd.underlying9 fun j hj => by
    match j, hj with
    | 0, _ => rw [Addr.add_lit]; simpa [UInt8.toNat_ofNat', Nat.mod_eq_of_lt hk] using h0
    | 1, _ => rw [Addr.add_lit]; simpa [UInt8.toNat_ofNat', Nat.mod_eq_of_lt hd] using h1
    | 2, _ => rw [Addr.add_lit]; simpa using h2
    | 3, _ => rw [Addr.add_lit]; simpa [UInt8.toNat_ofNat', Nat.mod_eq_of_lt hn] using h3
theorem lit_append (a : Array UInt8) (b : List UInt8) : (⟨a⟩ : ByteArray) ++ mk b = mk (a.toList ++ b) := by
  apply ByteArray.ext
  apply Array.ext'
  simp [mk]
attribute [local go_sem] mk_append lit_append zs_length List.length_append List.length_cons List.length_nil

set_option maxRecDepth 100000 in
set_option maxHeartbeats 1600000 in
theorem put_yes (k d n : Nat) (body : List UInt8) (w : World) (hT : Tab w) (hk : k ≤ 5) (hd : d ≤ 5) (hn : n < 64) (hb : body.length = 240) :
    Calls Tryd.prog 10 #[.agg #[.int .i64 k, .int .i64 d, .int .i64 n, .string (mk body)]] w fun en w' => en = .returned (.tuple #[.string (mk (penc ⟨k, d, n, body⟩)), .bool true]) ∧ Below w.heap.size w w' := by
  have hne : ((body.length : Int) != 240) = false := by rw [bne_eq_false_iff_eq]; omega
  have hbl : body.length ≤ 240 := by omega
  have hb8 : ¬ 9223372036854775807 < 16 + body.length := by omega
  have hT1 : Tab (w.alloc (.cells #[.int .i64 k, .int .i64 d, .int .i64 n, .string (mk body)] 23)) := hT.more ((Below.refl _ _).alloc (Nat.le_refl _) _)
  obtain ⟨nm, hnm⟩ : ∃ nm, nm = nameOf k := ⟨_, rfl⟩
  have hnm1 : nm.isEmpty = false := by
    rw [hnm, nameOf, if_pos (by omega), Int.toNat_natCast]
    rcases (show k = 0 ∨ k = 1 ∨ k = 2 ∨ k = 3 ∨ k = 4 ∨ k = 5 by omega) with rfl | rfl | rfl | rfl | rfl | rfl <;> rfl
  have hfin : [80, 71] ++ [UInt8.ofNat k, UInt8.ofNat d, 0, UInt8.ofNat n] ++ zs 10 ++ body = penc ⟨k, d, n, body⟩ := by simp [penc, byteOf]
  simp only [List.cons_append, List.nil_append] at hfin
  replace hfin := Lib.hid hfin
  replace hb := Lib.hid hb
  replace hnm := Lib.hid hnm
  go_enter Tryd.func10, Tryd.ntmps10
  go_wp2_with fail
  refine (name_any k _ hT1).mono ?_
  rintro en w1 ⟨rfl, hb1⟩
  rw [← hnm.out]
  have hst := Lib.hid ((PgS.start w k d n body 23).more hb1)
  obtain ⟨c0, c1, c2, c3, _⟩ := id hst.out
  clear hb1 hT1 hT
  have hcv := fun (w : World) (b : Nat) => conv4 k d n (by omega) (by omega) (by omega) w b
  have hw1 : IntKind.u8.wrap (k : Int) = k := by rw [IntKind.wrap_u8]; omega
  have hw2 : IntKind.u8.wrap (d : Int) = d := by rw [IntKind.wrap_u8]; omega
  have hw3 : IntKind.u8.wrap (n : Int) = n := by rw [IntKind.wrap_u8]; omega
  have hw4 : IntKind.u8.wrap ((n : Int) / 256) = 0 := by rw [IntKind.wrap_u8]; omega
  go_wp2
  clear c0 c1 c2 c3
  refine wp_region_held_drew (S := PgS w k d n body) (by kernel_rfl) hst.out.drew (fun hHeld => ?_)
  refine wpAnyH_take (i := 0) (v := ?_) rfl (by kernel_rfl) (by kernel_rfl) (by kernel_rfl) (fun _ _ _ h => h) (Or.inl ⟨by rfl, ?_⟩) (by assumption) ?_
  rotate_left
  · (intro wS hSw; (try dsimp only at hSw); go_simp; (try with_reducible rfl))
  try simp only [Act.put, List.getElem_toArray, List.getElem_cons_succ, List.getElem_cons_zero, List.setIfInBounds_toArray, List.set_cons_zero, List.set_cons_succ]
  refine wpAnyH_take (i := 1) (v := ?_) rfl (by kernel_rfl) (by kernel_rfl) (by kernel_rfl) (fun _ _ _ h => h) (Or.inl ⟨by rfl, ?_⟩) (by assumption) ?_
  rotate_left
  · (intro wS hSw; (try dsimp only at hSw); obtain ⟨q0, q1, q2, q3, _⟩ := hSw; go_simp; (try with_reducible rfl))
  try simp only [Act.put, List.getElem_toArray, List.getElem_cons_succ, List.getElem_cons_zero, List.setIfInBounds_toArray, List.set_cons_zero, List.set_cons_succ]
  refine wpAnyH_take (i := 2) (v := ?_) rfl (by kernel_rfl) (by kernel_rfl) (by kernel_rfl) (fun _ _ _ h => h) (Or.inl ⟨by rfl, ?_⟩) (by assumption) ?_
  rotate_left
  · (intro wS hSw; (try dsimp only at hSw); go_simp; (try with_reducible rfl))
  try simp only [Act.put, List.getElem_toArray, List.getElem_cons_succ, List.getElem_cons_zero, List.setIfInBounds_toArray, List.set_cons_zero, List.set_cons_succ]
  refine wpAnyH_take (i := 3) (v := ?_) rfl (by kernel_rfl) (by kernel_rfl) (by kernel_rfl) (fun _ _ _ h => h) (Or.inl ⟨by rfl, ?_⟩) (by assumption) ?_
  rotate_left
  · (intro wS hSw; (try dsimp only at hSw); go_simp; (try with_reducible rfl))
  try simp only [Act.put, List.getElem_toArray, List.getElem_cons_succ, List.getElem_cons_zero, List.setIfInBounds_toArray, List.set_cons_zero, List.set_cons_succ]
  refine wpAnyH_take (i := 4) (v := ?_) rfl (by kernel_rfl) (by kernel_rfl) (by kernel_rfl) (fun _ _ _ h => h) (Or.inl ⟨by rfl, ?_⟩) (by assumption) ?_
  rotate_left
  · (intro wS hSw; (try dsimp only at hSw); obtain ⟨q0, q1, q2, q3, _⟩ := hSw; go_simp; (try with_reducible rfl))
  try simp only [Act.put, List.getElem_toArray, List.getElem_cons_succ, List.getElem_cons_zero, List.setIfInBounds_toArray, List.set_cons_zero, List.set_cons_succ]
  refine wpAnyH_take (i := 5) (v := ?_) rfl (by kernel_rfl) (by kernel_rfl) (by kernel_rfl) (fun _ _ _ h => h) (Or.inl ⟨by rfl, ?_⟩) (by assumption) ?_
  rotate_left
  · (intro wS hSw; (try dsimp only at hSw); go_simp; (try with_reducible rfl))
  try simp only [Act.put, List.getElem_toArray, List.getElem_cons_succ, List.getElem_cons_zero, List.setIfInBounds_toArray, List.set_cons_zero, List.set_cons_succ]
  refine wpAnyH_take (i := 6) (v := ?_) rfl (by kernel_rfl) (by kernel_rfl) (by kernel_rfl) (fun _ _ _ h => h) (Or.inl ⟨by rfl, ?_⟩) (by assumption) ?_
  rotate_left
  · (intro wS hSw; (try dsimp only at hSw); go_simp; (try with_reducible rfl))
  try simp only [Act.put, List.getElem_toArray, List.getElem_cons_succ, List.getElem_cons_zero, List.setIfInBounds_toArray, List.set_cons_zero, List.set_cons_succ]
  refine wpAnyH_take (i := 7) (v := ?_) rfl (by kernel_rfl) (by kernel_rfl) (by kernel_rfl) (fun _ _ _ h => h) (Or.inl ⟨by rfl, ?_⟩) (by assumption) ?_
  rotate_left
  · (intro wS hSw; (try dsimp only at hSw); obtain ⟨q0, q1, q2, q3, _⟩ := hSw; go_simp; (try with_reducible rfl))
  try simp only [Act.put, List.getElem_toArray, List.getElem_cons_succ, List.getElem_cons_zero, List.setIfInBounds_toArray, List.set_cons_zero, List.set_cons_succ]
  refine wpAnyH_take (i := 8) (v := ?_) rfl (by kernel_rfl) (by kernel_rfl) (by kernel_rfl) (fun _ _ _ h => h) (Or.inl ⟨by rfl, ?_⟩) (by assumption) ?_
  rotate_left
  · (intro wS hSw; (try dsimp only at hSw); go_simp; (try with_reducible rfl))
  try simp only [Act.put, List.getElem_toArray, List.getElem_cons_succ, List.getElem_cons_zero, List.setIfInBounds_toArray, List.set_cons_zero, List.set_cons_succ]
  refine wpAnyH_take (i := 9) (v := ?_) rfl (by kernel_rfl) (by kernel_rfl) (by kernel_rfl) (fun _ _ _ h => h) (Or.inl ⟨by rfl, ?_⟩) (by assumption) ?_
  rotate_left
  · (intro wS hSw; (try dsimp only at hSw); go_simp; (try with_reducible rfl))
  try simp only [Act.put, List.getElem_toArray, List.getElem_cons_succ, List.getElem_cons_zero, List.setIfInBounds_toArray, List.set_cons_zero, List.set_cons_succ]
  refine wpAnyH_take (i := 10) (v := ?_) rfl (by kernel_rfl) (by kernel_rfl) (by kernel_rfl) (fun _ _ _ h => h) (Or.inl ⟨by rfl, ?_⟩) (by assumption) ?_
  rotate_left
  · (intro wS hSw; (try dsimp only at hSw); go_simp; (try with_reducible rfl))
  try simp only [Act.put, List.getElem_toArray, List.getElem_cons_succ, List.getElem_cons_zero, List.setIfInBounds_toArray, List.set_cons_zero, List.set_cons_succ]
  refine wpAnyH_take (i := 11) (v := ?_) rfl (by kernel_rfl) (by kernel_rfl) (by kernel_rfl) (fun _ _ _ h => h) (Or.inl ⟨by rfl, ?_⟩) (by assumption) ?_
  rotate_left
  · (intro wS hSw; (try dsimp only at hSw); obtain ⟨q0, q1, q2, q3, _⟩ := hSw; go_simp; (try with_reducible rfl))
  try simp only [Act.put, List.getElem_toArray, List.getElem_cons_succ, List.getElem_cons_zero, List.setIfInBounds_toArray, List.set_cons_zero, List.set_cons_succ]
  refine wpAnyH_take (i := 12) (v := ?_) rfl (by kernel_rfl) (by kernel_rfl) (by kernel_rfl) (fun _ _ _ h => h) (Or.inl ⟨by rfl, ?_⟩) (by assumption) ?_
  rotate_left
  · (intro wS hSw; (try dsimp only at hSw); go_simp; (try with_reducible rfl))
  try simp only [Act.put, List.getElem_toArray, List.getElem_cons_succ, List.getElem_cons_zero, List.setIfInBounds_toArray, List.set_cons_zero, List.set_cons_succ]
  refine wpAnyH_take (i := 18) (v := ?_) rfl (by kernel_rfl) (by kernel_rfl) (by kernel_rfl) (fun _ _ _ h => h) (Or.inl ⟨by rfl, ?_⟩) (by assumption) ?_
  rotate_left
  · (intro wS hSw; (try dsimp only at hSw); go_simp; (try with_reducible rfl))
  try simp only [Act.put, List.getElem_toArray, List.getElem_cons_succ, List.getElem_cons_zero, List.setIfInBounds_toArray, List.set_cons_zero, List.set_cons_succ]
  refine wpAnyH_take (i := 19) (v := ?_) rfl (by kernel_rfl) (by kernel_rfl) (by kernel_rfl) (fun _ _ _ h => h) (Or.inl ⟨by rfl, ?_⟩) (by assumption) ?_
  rotate_left
  · (intro wS hSw; (try dsimp only at hSw); obtain ⟨q0, q1, q2, q3, _⟩ := hSw; go_simp; (try with_reducible rfl))
  try simp only [Act.put, List.getElem_toArray, List.getElem_cons_succ, List.getElem_cons_zero, List.setIfInBounds_toArray, List.set_cons_zero, List.set_cons_succ]
  refine wpAnyH_ready (rs := [13, 16]) (by kernel_rfl) (by simp) ?_
  refine AllReadyH.cons rfl (fun K hK => ?_) (AllReadyH.cons rfl (fun K hK => ?_) AllReadyH.nil)
  · simp only [List.getElem_toArray, List.getElem_cons_succ, List.getElem_cons_zero]
    go_simp
    refine hK.out _ _ (PgS.alloc (by assumption) _) (fun hHeld => ?_)
    clear hK K
    try simp only [Act.put, List.getElem_toArray, List.getElem_cons_succ, List.getElem_cons_zero, List.setIfInBounds_toArray, List.set_cons_zero, List.set_cons_succ]
    obtain ⟨B, hBe, hG⟩ := (by first | exact PgS.grow hHeld | exact PgS.grow' hHeld)
    (try simp at hBe)
    replace hBe := Lib.hid hBe
    refine wpAnyH_more (S' := PgS4 w k d n body B (.int .u8 k) (.int .u8 d) (.int .u8 0) (.int .u8 n)) (fun _ h => h.1) ?_
    clear hHeld
    have hHeld := hG
    refine wpAnyH_take (i := 14) (v := ?_) rfl (by kernel_rfl) (by kernel_rfl) (by kernel_rfl) (fun _ _ _ h => h) (Or.inl ⟨by rfl, ?_⟩) (by assumption) ?_
    rotate_left
    · (intro wS hSw; (try dsimp only at hSw); obtain ⟨_, c0, c1, c2, c3⟩ := hSw; rw [hBe.out] at c0 c1 c2 c3; go_simp; (try with_reducible rfl))
    try simp only [Act.put, List.getElem_toArray, List.getElem_cons_succ, List.getElem_cons_zero, List.setIfInBounds_toArray, List.set_cons_zero, List.set_cons_succ]
    refine wpAnyH_take (i := 15) (v := ?_) rfl (by kernel_rfl) (by kernel_rfl) (by kernel_rfl) (fun _ _ _ h => h) (Or.inl ⟨by rfl, ?_⟩) (by assumption) ?_
    rotate_left
    · (intro wS hSw; (try dsimp only at hSw); go_simp; (try with_reducible rfl))
    try simp only [Act.put, List.getElem_toArray, List.getElem_cons_succ, List.getElem_cons_zero, List.setIfInBounds_toArray, List.set_cons_zero, List.set_cons_succ]
    refine wpAnyH_ready (rs := [16]) (by kernel_rfl) (by simp) ?_
    refine AllReadyH.cons rfl (fun K hK => ?_) AllReadyH.nil
    · simp only [List.getElem_toArray, List.getElem_cons_succ, List.getElem_cons_zero]
      go_simp
      (go_at_call 17; refine (zeros_S4 (by assumption)).mono ?_; rintro en wq ⟨rfl, hq⟩)
      go_wp2_with fail
      refine hK.out _ _ (by assumption) (fun hHeld => ?_)
      clear hK K
      try simp only [Act.put, List.getElem_toArray, List.getElem_cons_succ, List.getElem_cons_zero, List.setIfInBounds_toArray, List.set_cons_zero, List.set_cons_succ]
      refine wpAnyH_take (i := 17) (v := ?_) rfl (by kernel_rfl) (by kernel_rfl) (by kernel_rfl) (fun _ _ _ h => h) (Or.inl ⟨by rfl, ?_⟩) (by assumption) ?_
      rotate_left
      · (intro wS hSw; (try dsimp only at hSw); go_simp; (try with_reducible rfl))
      try simp only [Act.put, List.getElem_toArray, List.getElem_cons_succ, List.getElem_cons_zero, List.setIfInBounds_toArray, List.set_cons_zero, List.set_cons_succ]
      refine wpAnyH_take (i := 20) (v := ?_) rfl (by kernel_rfl) (by kernel_rfl) (by kernel_rfl) (fun _ _ _ h => h) (Or.inl ⟨by rfl, ?_⟩) (by assumption) ?_
      rotate_left
      · (intro wS hSw; (try dsimp only at hSw); go_simp; (try rw [if_neg (by omega)]); (try with_reducible rfl))
      try simp only [Act.put, List.getElem_toArray, List.getElem_cons_succ, List.getElem_cons_zero, List.setIfInBounds_toArray, List.set_cons_zero, List.set_cons_succ]
      refine wpAnyH_take (i := 21) (v := ?_) rfl (by kernel_rfl) (by kernel_rfl) (by kernel_rfl) (fun _ _ _ h => h) (Or.inl ⟨by rfl, ?_⟩) (by assumption) ?_
      rotate_left
      · (intro wS hSw; (try dsimp only at hSw); go_simp; (try with_reducible rfl))
      try simp only [Act.put, List.getElem_toArray, List.getElem_cons_succ, List.getElem_cons_zero, List.setIfInBounds_toArray, List.set_cons_zero, List.set_cons_succ]
      refine wpAnyH_take (i := 22) (v := ?_) rfl (by kernel_rfl) (by kernel_rfl) (by kernel_rfl) (fun _ _ _ h => h) (Or.inl ⟨by rfl, ?_⟩) (by assumption) ?_
      rotate_left
      · (intro wS hSw; (try dsimp only at hSw); go_simp; (try with_reducible rfl))
      try simp only [Act.put, List.getElem_toArray, List.getElem_cons_succ, List.getElem_cons_zero, List.setIfInBounds_toArray, List.set_cons_zero, List.set_cons_succ]
      refine wpAnyH_done (by kernel_rfl) ?_ _
      go_wp2
      go_ret2
      exact ⟨by rw [hfin.out]; rfl, hHeld.1.2.2.2.2.out⟩
  · simp only [List.getElem_toArray, List.getElem_cons_succ, List.getElem_cons_zero]
    go_simp
    (go_at_call 17; refine (zeros_S (by assumption)).mono ?_; rintro en wq ⟨rfl, hq⟩)
    go_wp2_with fail
    refine hK.out _ _ (by assumption) (fun hHeld => ?_)
    clear hK K
    try simp only [Act.put, List.getElem_toArray, List.getElem_cons_succ, List.getElem_cons_zero, List.setIfInBounds_toArray, List.set_cons_zero, List.set_cons_succ]
    refine wpAnyH_ready (rs := [13]) (by kernel_rfl) (by simp) ?_
    refine AllReadyH.cons rfl (fun K hK => ?_) AllReadyH.nil
    · simp only [List.getElem_toArray, List.getElem_cons_succ, List.getElem_cons_zero]
      go_simp
      refine hK.out _ _ (PgS.alloc (by assumption) _) (fun hHeld => ?_)
      clear hK K
      try simp only [Act.put, List.getElem_toArray, List.getElem_cons_succ, List.getElem_cons_zero, List.setIfInBounds_toArray, List.set_cons_zero, List.set_cons_succ]
      obtain ⟨B, hBe, hG⟩ := (by first | exact PgS.grow hHeld | exact PgS.grow' hHeld)
      (try simp at hBe)
      replace hBe := Lib.hid hBe
      refine wpAnyH_more (S' := PgS4 w k d n body B (.int .u8 k) (.int .u8 d) (.int .u8 0) (.int .u8 n)) (fun _ h => h.1) ?_
      clear hHeld
      have hHeld := hG
      refine wpAnyH_take (i := 14) (v := ?_) rfl (by kernel_rfl) (by kernel_rfl) (by kernel_rfl) (fun _ _ _ h => h) (Or.inl ⟨by rfl, ?_⟩) (by assumption) ?_
      rotate_left
      · (intro wS hSw; (try dsimp only at hSw); obtain ⟨_, c0, c1, c2, c3⟩ := hSw; rw [hBe.out] at c0 c1 c2 c3; go_simp; (try with_reducible rfl))
      try simp only [Act.put, List.getElem_toArray, List.getElem_cons_succ, List.getElem_cons_zero, List.setIfInBounds_toArray, List.set_cons_zero, List.set_cons_succ]
      refine wpAnyH_take (i := 15) (v := ?_) rfl (by kernel_rfl) (by kernel_rfl) (by kernel_rfl) (fun _ _ _ h => h) (Or.inl ⟨by rfl, ?_⟩) (by assumption) ?_
      rotate_left
      · (intro wS hSw; (try dsimp only at hSw); go_simp; (try with_reducible rfl))
      try simp only [Act.put, List.getElem_toArray, List.getElem_cons_succ, List.getElem_cons_zero, List.setIfInBounds_toArray, List.set_cons_zero, List.set_cons_succ]
      refine wpAnyH_take (i := 17) (v := ?_) rfl (by kernel_rfl) (by kernel_rfl) (by kernel_rfl) (fun _ _ _ h => h) (Or.inl ⟨by rfl, ?_⟩) (by assumption) ?_
      rotate_left
      · (intro wS hSw; (try dsimp only at hSw); go_simp; (try with_reducible rfl))
      try simp only [Act.put, List.getElem_toArray, List.getElem_cons_succ, List.getElem_cons_zero, List.setIfInBounds_toArray, List.set_cons_zero, List.set_cons_succ]
      refine wpAnyH_take (i := 20) (v := ?_) rfl (by kernel_rfl) (by kernel_rfl) (by kernel_rfl) (fun _ _ _ h => h) (Or.inl ⟨by rfl, ?_⟩) (by assumption) ?_
      rotate_left
      · (intro wS hSw; (try dsimp only at hSw); go_simp; (try rw [if_neg (by omega)]); (try with_reducible rfl))
      try simp only [Act.put, List.getElem_toArray, List.getElem_cons_succ, List.getElem_cons_zero, List.setIfInBounds_toArray, List.set_cons_zero, List.set_cons_succ]
      refine wpAnyH_take (i := 21) (v := ?_) rfl (by kernel_rfl) (by kernel_rfl) (by kernel_rfl) (fun _ _ _ h => h) (Or.inl ⟨by rfl, ?_⟩) (by assumption) ?_
      rotate_left
      · (intro wS hSw; (try dsimp only at hSw); go_simp; (try with_reducible rfl))
      try simp only [Act.put, List.getElem_toArray, List.getElem_cons_succ, List.getElem_cons_zero, List.setIfInBounds_toArray, List.set_cons_zero, List.set_cons_succ]
      refine wpAnyH_take (i := 22) (v := ?_) rfl (by kernel_rfl) (by kernel_rfl) (by kernel_rfl) (fun _ _ _ h => h) (Or.inl ⟨by rfl, ?_⟩) (by assumption) ?_
      rotate_left
      · (intro wS hSw; (try dsimp only at hSw); go_simp; (try with_reducible rfl))
      try simp only [Act.put, List.getElem_toArray, List.getElem_cons_succ, List.getElem_cons_zero, List.setIfInBounds_toArray, List.set_cons_zero, List.set_cons_succ]
      refine wpAnyH_done (by kernel_rfl) ?_ _
      go_wp2
      go_ret2
      exact ⟨by rw [hfin.out]; rfl, hHeld.1.2.2.2.2.out⟩
end Go.Proofs.YtcmbofoddfhnjaaDoor
