/- The reference's page: what may be. No condition. -/
import Derived.Test.YtcmbofoddfhnjaaDoorPNo
import Derived.Test.YtcmbofoddfhnjaaDoorFZer
import Derived.Test.YtcmbofoddfhnjaaDoorPLFields
namespace Go.Proofs.YtcmbofoddfhnjaaDoor
open Go.RowKit
attribute [local go_sem] mk_size

set_option maxHeartbeats 1600000 in
theorem right_any (k d n : Int) (body : List UInt8) (w : World) (hbl : body.length ≤ 140737488351232) :
    Calls Tryd.prog 18 #[.agg #[.int .i64 k, .int .i64 d, .int .i64 n, .string (mk body)]] w fun e w' => e = .returned (.bool (pgOk ⟨k, d, n, body⟩)) ∧ Below w.heap.size w w' := by
  obtain ⟨f, hf⟩ : ∃ f, pgOk ⟨k, d, n, body⟩ = f := ⟨_, rfl⟩
  have h1 : f = (decide (0 ≤ k) && decide (k ≤ 5) && decide (0 ≤ d) && decide (d ≤ 5) && decide (0 ≤ n) && decide (n < 64) && ((body.length : Int) == 240)) := by
    rw [← hf, pgOk]
    congr 1
    by_cases h : body.length = 240
    · simp [h]
    · have : ¬ ((body.length : Int) = 240) := by omega
      simp [h, this]
  rw [hf]
  replace h1 := Lib.hid h1
  clear hf
  go_enter Tryd.func18, Tryd.ntmps18
  go_wp2
  all_goals (go_ret; exact ⟨by rw [h1.out]; simp_all <;> (intros; omega), (Below.refl _ _).alloc (Nat.le_refl _) _⟩)

theorem of_two (a b : UInt8) (w : World) : Calls Tryd.prog 19 #[.string (mk [a, b])] w fun e w' => e = .returned (.int .i64 ((a.toNat : Int) * 256 + b.toNat)) ∧ Below w.heap.size w w' := by
  have ha := a.toNat_lt
  have hb := b.toNat_lt
  have hi0 := idx [a, b] 0 0 a.toNat rfl (by simp) rfl
  have hi1 := idx [a, b] 1 1 b.toNat rfl (by simp) rfl
  go_enter Tryd.func19, Tryd.ntmps19
  go_wp2
  go_loop [3, 4] (fun v i => i = .int .i64 0 ∧ v = .int .i64 0 ∨ i = .int .i64 1 ∧ v = .int .i64 a.toNat ∨ i = .int .i64 2 ∧ v = .int .i64 ((a.toNat : Int) * 256 + b.toNat)) (fun _ i => 2 - (intOf i).toNat)
  case atStart => exact .inl ⟨rfl, rfl⟩
  case round =>
    rcases hrel with ⟨rfl, rfl⟩ | ⟨rfl, rfl⟩ | ⟨rfl, rfl⟩
    · go_wp2
      go_round
      case rel => exact .inr (.inl ⟨rfl, by go_num⟩)
      case measure => simp [intOf]
    · go_wp2
      go_round
      case rel => exact .inr (.inr ⟨rfl, by go_num⟩)
      case measure => simp [intOf]
    · go_wp2
      go_ret
      exact ⟨rfl, Below.refl _ _⟩

theorem rzeros_S {w0 w : World} {k d n : Int} {body : List UInt8} (h : PgS w0 k d n body w) : Calls Tryd.prog 15 #[.int .i64 10] w fun en w' => en = .returned (.string (mk (zs 10))) ∧ PgS w0 k d n body w' :=
  (refZeros_any 10 w (by omega)).mono fun _ _ ⟨he, hb⟩ => ⟨he, h.more hb⟩
theorem rzeros_S4 {w0 w : World} {k d n : Int} {body : List UInt8} {B : Nat} {x y z u : Value} (h : PgS4 w0 k d n body B x y z u w) : Calls Tryd.prog 15 #[.int .i64 10] w fun en w' => en = .returned (.string (mk (zs 10))) ∧ PgS4 w0 k d n body B x y z u w' :=
  (refZeros_any 10 w (by omega)).mono fun _ _ ⟨he, hb⟩ => ⟨he, h.1.more hb, same_cell hb h.2.1, same_cell hb h.2.2.1, same_cell hb h.2.2.2.1, same_cell hb h.2.2.2.2⟩
theorem rput_no (k d n : Int) (body : List UInt8) (w : World) (hbl : body.length ≤ 140737488351232) (hok : pgOk ⟨k, d, n, body⟩ = false) :
    Calls Tryd.prog 11 #[.agg #[.int .i64 k, .int .i64 d, .int .i64 n, .string (mk body)]] w fun en w' => en = .returned (putV ⟨k, d, n, body⟩) ∧ Below w.heap.size w w' := by
  go_enter Tryd.func11, Tryd.ntmps11
  go_wp2_with fail
  refine (right_any k d n body _ hbl).mono ?_
  rintro en w1 ⟨rfl, h1⟩
  rw [hok]
  go_wp2
  go_ret2
  exact ⟨by rw [putV, if_neg (by rw [hok]; decide)]; rfl, ((Below.refl _ _).alloc (Nat.le_refl _) _).trans (h1.mono (by simp))⟩
attribute [local go_sem] mk_append lit_append zs_length List.length_append List.length_cons List.length_nil
attribute [local go_sem ↓] Go.wp_at_zero Go.wp_at_succ
set_option maxRecDepth 100000 in
set_option maxHeartbeats 1600000 in
theorem rput_yes (k d n : Nat) (body : List UInt8) (w : World) (hk : k ≤ 5) (hd : d ≤ 5) (hn : n < 64) (hb : body.length = 240) :
    Calls Tryd.prog 11 #[.agg #[.int .i64 k, .int .i64 d, .int .i64 n, .string (mk body)]] w fun en w' => en = .returned (.tuple #[.string (mk (penc ⟨k, d, n, body⟩)), .bool true]) ∧ Below w.heap.size w w' := by
    have hok : pgOk ⟨k, d, n, body⟩ = true := pgOk_iff.2 ⟨by simp only; omega, by simp only; omega, by simp only; omega, by simp only; omega, by simp only; omega, by simp only; omega, hb⟩
    have hbl : body.length ≤ 240 := by omega
    have hfin : [80, 71] ++ [UInt8.ofNat k, UInt8.ofNat d, 0, UInt8.ofNat n] ++ zs 10 ++ body = penc ⟨k, d, n, body⟩ := by simp [penc, byteOf]
    simp only [List.cons_append, List.nil_append] at hfin
    replace hfin := Lib.hid hfin
    replace hb := Lib.hid hb
    replace hok := Lib.hid hok
    have hst0 : PgS w k d n body (w.alloc (.cells #[.int .i64 k, .int .i64 d, .int .i64 n, .string (mk body)] 23)) := PgS.start w k d n body 23
    replace hst0 := Lib.hid hst0
    go_enter Tryd.func11, Tryd.ntmps11
    go_wp2_with fail
    refine (right_any k d n body _ (by omega)).mono ?_
    rintro en w1 ⟨rfl, h1⟩
    rw [hok.out]
    have hst := Lib.hid (hst0.out.more h1)
    clear h1 hst0
    have hcv := fun (w : World) (b : Nat) => conv4 k d n (by omega) (by omega) (by omega) w b
    have hw1 : IntKind.u8.wrap (k : Int) = k := by rw [IntKind.wrap_u8]; omega
    have hw2 : IntKind.u8.wrap (d : Int) = d := by rw [IntKind.wrap_u8]; omega
    have hw3 : IntKind.u8.wrap (n : Int) = n := by rw [IntKind.wrap_u8]; omega
    go_wp2
    refine wp_region_held_drew (S := PgS w k d n body) (by kernel_rfl) hst.out.drew (fun hHeld => ?_)
    refine wpAnyH_take (i := 0) (v := ?_) rfl (by kernel_rfl) (by kernel_rfl) (by kernel_rfl) (fun _ _ _ h => h) (Or.inl ⟨by rfl, ?_⟩) (by assumption) ?_
    rotate_left
    · (intro wS hSw; (try dsimp only at hSw); go_simp; (try with_reducible rfl))
    try simp only [Act.put, List.getElem_toArray, List.getElem_cons_zero, List.setIfInBounds_toArray, List.set_cons_zero, List.set_cons_succ]
    refine wpAnyH_take (i := 1) (v := ?_) rfl (by kernel_rfl) (by kernel_rfl) (by kernel_rfl) (fun _ _ _ h => h) (Or.inl ⟨by rfl, ?_⟩) (by assumption) ?_
    rotate_left
    · (intro wS hSw; (try dsimp only at hSw); obtain ⟨q0, q1, q2, q3, _⟩ := hSw; go_simp; (try with_reducible rfl))
    try simp only [Act.put, List.getElem_toArray, List.getElem_cons_succ, List.getElem_cons_zero, List.setIfInBounds_toArray, List.set_cons_zero, List.set_cons_succ]
    refine wpAnyH_take (i := 2) (v := ?_) rfl (by kernel_rfl) (by kernel_rfl) (by kernel_rfl) (fun _ _ _ h => h) (Or.inl ⟨by rfl, ?_⟩) (by assumption) ?_
    rotate_left
    · (intro wS hSw; (try dsimp only at hSw); go_simp; (try with_reducible rfl))
    try simp only [Act.put, List.getElem_toArray, List.getElem_cons_succ, List.getElem_cons_zero, List.setIfInBounds_toArray, List.set_cons_zero, List.set_cons_succ]
    refine wpAnyH_take (i := 3) (v := ?_) rfl (by kernel_rfl) (by kernel_rfl) (by kernel_rfl) (fun _ _ _ h => h) (Or.inl ⟨by rfl, ?_⟩) (by assumption) ?_
    rotate_left
    · (intro wS hSw; (try dsimp only at hSw); go_simp; (try with_reducible rfl))
    try simp only [Act.put, List.getElem_toArray, List.getElem_cons_succ, List.getElem_cons_zero, List.setIfInBounds_toArray, List.set_cons_zero, List.set_cons_succ]
    refine wpAnyH_take (i := 4) (v := ?_) rfl (by kernel_rfl) (by kernel_rfl) (by kernel_rfl) (fun _ _ _ h => h) (Or.inl ⟨by rfl, ?_⟩) (by assumption) ?_
    rotate_left
    · (intro wS hSw; (try dsimp only at hSw); obtain ⟨q0, q1, q2, q3, _⟩ := hSw; go_simp; (try with_reducible rfl))
    try simp only [Act.put, List.getElem_toArray, List.getElem_cons_succ, List.getElem_cons_zero, List.setIfInBounds_toArray, List.set_cons_zero, List.set_cons_succ]
    refine wpAnyH_take (i := 5) (v := ?_) rfl (by kernel_rfl) (by kernel_rfl) (by kernel_rfl) (fun _ _ _ h => h) (Or.inl ⟨by rfl, ?_⟩) (by assumption) ?_
    rotate_left
    · (intro wS hSw; (try dsimp only at hSw); go_simp; (try with_reducible rfl))
    try simp only [Act.put, List.getElem_toArray, List.getElem_cons_succ, List.getElem_cons_zero, List.setIfInBounds_toArray, List.set_cons_zero, List.set_cons_succ]
    refine wpAnyH_take (i := 6) (v := ?_) rfl (by kernel_rfl) (by kernel_rfl) (by kernel_rfl) (fun _ _ _ h => h) (Or.inl ⟨by rfl, ?_⟩) (by assumption) ?_
    rotate_left
    · (intro wS hSw; (try dsimp only at hSw); go_simp; (try with_reducible rfl))
    try simp only [Act.put, List.getElem_toArray, List.getElem_cons_succ, List.getElem_cons_zero, List.setIfInBounds_toArray, List.set_cons_zero, List.set_cons_succ]
    refine wpAnyH_take (i := 7) (v := ?_) rfl (by kernel_rfl) (by kernel_rfl) (by kernel_rfl) (fun _ _ _ h => h) (Or.inl ⟨by rfl, ?_⟩) (by assumption) ?_
    rotate_left
    · (intro wS hSw; (try dsimp only at hSw); obtain ⟨q0, q1, q2, q3, _⟩ := hSw; go_simp; (try with_reducible rfl))
    try simp only [Act.put, List.getElem_toArray, List.getElem_cons_succ, List.getElem_cons_zero, List.setIfInBounds_toArray, List.set_cons_zero, List.set_cons_succ]
    refine wpAnyH_take (i := 8) (v := ?_) rfl (by kernel_rfl) (by kernel_rfl) (by kernel_rfl) (fun _ _ _ h => h) (Or.inl ⟨by rfl, ?_⟩) (by assumption) ?_
    rotate_left
    · (intro wS hSw; (try dsimp only at hSw); go_simp; (try with_reducible rfl))
    try simp only [Act.put, List.getElem_toArray, List.getElem_cons_succ, List.getElem_cons_zero, List.setIfInBounds_toArray, List.set_cons_zero, List.set_cons_succ]
    refine wpAnyH_take (i := 14) (v := ?_) rfl (by kernel_rfl) (by kernel_rfl) (by kernel_rfl) (fun _ _ _ h => h) (Or.inl ⟨by rfl, ?_⟩) (by assumption) ?_
    rotate_left
    · (intro wS hSw; (try dsimp only at hSw); go_simp; (try with_reducible rfl))
    try simp only [Act.put, List.getElem_toArray, List.getElem_cons_succ, List.getElem_cons_zero, List.setIfInBounds_toArray, List.set_cons_zero, List.set_cons_succ]
    refine wpAnyH_take (i := 15) (v := ?_) rfl (by kernel_rfl) (by kernel_rfl) (by kernel_rfl) (fun _ _ _ h => h) (Or.inl ⟨by rfl, ?_⟩) (by assumption) ?_
    rotate_left
    · (intro wS hSw; (try dsimp only at hSw); obtain ⟨q0, q1, q2, q3, _⟩ := hSw; go_simp; (try with_reducible rfl))
    try simp only [Act.put, List.getElem_toArray, List.getElem_cons_succ, List.getElem_cons_zero, List.setIfInBounds_toArray, List.set_cons_zero, List.set_cons_succ]
    refine wpAnyH_ready (rs := [9, 12]) (by kernel_rfl) (by simp) ?_
    refine AllReadyH.cons rfl (fun K hK => ?_) (AllReadyH.cons rfl (fun K hK => ?_) AllReadyH.nil)
    · simp only [List.getElem_toArray, List.getElem_cons_succ, List.getElem_cons_zero]
      go_simp
      refine hK.out _ _ (PgS.alloc (by assumption) _) (fun hHeld => ?_)
      clear hK K
      try simp only [Act.put, List.getElem_toArray, List.getElem_cons_succ, List.getElem_cons_zero, List.setIfInBounds_toArray, List.set_cons_zero, List.set_cons_succ]
      obtain ⟨B, hBe, hG⟩ := (by first | exact PgS.grow hHeld | exact PgS.grow' hHeld)
      (try simp at hBe)
      replace hBe := Lib.hid hBe
      refine wpAnyH_more (S' := PgS4 w k d n body B (.int .u8 k) (.int .u8 d) (.int .u8 0) (.int .u8 n)) (fun _ h => h.1) ?_
      clear hHeld
      have hHeld := hG
      refine wpAnyH_take (i := 10) (v := ?_) rfl (by kernel_rfl) (by kernel_rfl) (by kernel_rfl) (fun _ _ _ h => h) (Or.inl ⟨by rfl, ?_⟩) (by assumption) ?_
      rotate_left
      · (intro wS hSw; (try dsimp only at hSw); obtain ⟨_, c0, c1, c2, c3⟩ := hSw; rw [hBe.out] at c0 c1 c2 c3; go_simp; (try with_reducible rfl))
      try simp only [Act.put, List.getElem_toArray, List.getElem_cons_succ, List.getElem_cons_zero, List.setIfInBounds_toArray, List.set_cons_zero, List.set_cons_succ]
      refine wpAnyH_take (i := 11) (v := ?_) rfl (by kernel_rfl) (by kernel_rfl) (by kernel_rfl) (fun _ _ _ h => h) (Or.inl ⟨by rfl, ?_⟩) (by assumption) ?_
      rotate_left
      · (intro wS hSw; (try dsimp only at hSw); go_simp; (try with_reducible rfl))
      try simp only [Act.put, List.getElem_toArray, List.getElem_cons_succ, List.getElem_cons_zero, List.setIfInBounds_toArray, List.set_cons_zero, List.set_cons_succ]
      refine wpAnyH_ready (rs := [12]) (by kernel_rfl) (by simp) ?_
      refine AllReadyH.cons rfl (fun K hK => ?_) AllReadyH.nil
      · simp only [List.getElem_toArray, List.getElem_cons_succ, List.getElem_cons_zero]
        go_simp
        (go_at_call 15; refine (rzeros_S4 (by assumption)).mono ?_; rintro en wq ⟨rfl, hq⟩)
        go_wp2_with fail
        refine hK.out _ _ (by assumption) (fun hHeld => ?_)
        clear hK K
        try simp only [Act.put, List.getElem_toArray, List.getElem_cons_succ, List.getElem_cons_zero, List.setIfInBounds_toArray, List.set_cons_zero, List.set_cons_succ]
        refine wpAnyH_take (i := 13) (v := ?_) rfl (by kernel_rfl) (by kernel_rfl) (by kernel_rfl) (fun _ _ _ h => h) (Or.inl ⟨by rfl, ?_⟩) (by assumption) ?_
        rotate_left
        · (intro wS hSw; (try dsimp only at hSw); go_simp; (try with_reducible rfl))
        try simp only [Act.put, List.getElem_toArray, List.getElem_cons_succ, List.getElem_cons_zero, List.setIfInBounds_toArray, List.set_cons_zero, List.set_cons_succ]
        refine wpAnyH_take (i := 16) (v := ?_) rfl (by kernel_rfl) (by kernel_rfl) (by kernel_rfl) (fun _ _ _ h => h) (Or.inl ⟨by rfl, ?_⟩) (by assumption) ?_
        rotate_left
        · (intro wS hSw; (try dsimp only at hSw); go_simp; (try rw [if_neg (by omega)]); (try with_reducible rfl))
        try simp only [Act.put, List.getElem_toArray, List.getElem_cons_succ, List.getElem_cons_zero, List.setIfInBounds_toArray, List.set_cons_zero, List.set_cons_succ]
        refine wpAnyH_take (i := 17) (v := ?_) rfl (by kernel_rfl) (by kernel_rfl) (by kernel_rfl) (fun _ _ _ h => h) (Or.inl ⟨by rfl, ?_⟩) (by assumption) ?_
        rotate_left
        · (intro wS hSw; (try dsimp only at hSw); go_simp; (try with_reducible rfl))
        try simp only [Act.put, List.getElem_toArray, List.getElem_cons_succ, List.getElem_cons_zero, List.setIfInBounds_toArray, List.set_cons_zero, List.set_cons_succ]
        refine wpAnyH_take (i := 18) (v := ?_) rfl (by kernel_rfl) (by kernel_rfl) (by kernel_rfl) (fun _ _ _ h => h) (Or.inl ⟨by rfl, ?_⟩) (by assumption) ?_
        rotate_left
        · (intro wS hSw; (try dsimp only at hSw); go_simp; (try with_reducible rfl))
        try simp only [Act.put, List.getElem_toArray, List.getElem_cons_succ, List.getElem_cons_zero, List.setIfInBounds_toArray, List.set_cons_zero, List.set_cons_succ]
        refine wpAnyH_done (by kernel_rfl) ?_ _
        go_wp2
        go_ret2
        exact ⟨by rw [hfin.out]; rfl, hHeld.1.2.2.2.2.out⟩
    · simp only [List.getElem_toArray, List.getElem_cons_succ, List.getElem_cons_zero]
      go_simp
      (go_at_call 15; refine (rzeros_S (by assumption)).mono ?_; rintro en wq ⟨rfl, hq⟩)
      go_wp2_with fail
      refine hK.out _ _ (by assumption) (fun hHeld => ?_)
      clear hK K
      try simp only [Act.put, List.getElem_toArray, List.getElem_cons_succ, List.getElem_cons_zero, List.setIfInBounds_toArray, List.set_cons_zero, List.set_cons_succ]
      refine wpAnyH_ready (rs := [9]) (by kernel_rfl) (by simp) ?_
      refine AllReadyH.cons rfl (fun K hK => ?_) AllReadyH.nil
      · simp only [List.getElem_toArray, List.getElem_cons_succ, List.getElem_cons_zero]
        go_simp
        refine hK.out _ _ (PgS.alloc (by assumption) _) (fun hHeld => ?_)
        clear hK K
        try simp only [Act.put, List.getElem_toArray, List.getElem_cons_succ, List.getElem_cons_zero, List.setIfInBounds_toArray, List.set_cons_zero, List.set_cons_succ]
        obtain ⟨B, hBe, hG⟩ := (by first | exact PgS.grow hHeld | exact PgS.grow' hHeld)
        (try simp at hBe)
        replace hBe := Lib.hid hBe
        refine wpAnyH_more (S' := PgS4 w k d n body B (.int .u8 k) (.int .u8 d) (.int .u8 0) (.int .u8 n)) (fun _ h => h.1) ?_
        clear hHeld
        have hHeld := hG
        refine wpAnyH_take (i := 10) (v := ?_) rfl (by kernel_rfl) (by kernel_rfl) (by kernel_rfl) (fun _ _ _ h => h) (Or.inl ⟨by rfl, ?_⟩) (by assumption) ?_
        rotate_left
        · (intro wS hSw; (try dsimp only at hSw); obtain ⟨_, c0, c1, c2, c3⟩ := hSw; rw [hBe.out] at c0 c1 c2 c3; go_simp; (try with_reducible rfl))
        try simp only [Act.put, List.getElem_toArray, List.getElem_cons_succ, List.getElem_cons_zero, List.setIfInBounds_toArray, List.set_cons_zero, List.set_cons_succ]
        refine wpAnyH_take (i := 11) (v := ?_) rfl (by kernel_rfl) (by kernel_rfl) (by kernel_rfl) (fun _ _ _ h => h) (Or.inl ⟨by rfl, ?_⟩) (by assumption) ?_
        rotate_left
        · (intro wS hSw; (try dsimp only at hSw); go_simp; (try with_reducible rfl))
        try simp only [Act.put, List.getElem_toArray, List.getElem_cons_succ, List.getElem_cons_zero, List.setIfInBounds_toArray, List.set_cons_zero, List.set_cons_succ]
        refine wpAnyH_take (i := 13) (v := ?_) rfl (by kernel_rfl) (by kernel_rfl) (by kernel_rfl) (fun _ _ _ h => h) (Or.inl ⟨by rfl, ?_⟩) (by assumption) ?_
        rotate_left
        · (intro wS hSw; (try dsimp only at hSw); go_simp; (try with_reducible rfl))
        try simp only [Act.put, List.getElem_toArray, List.getElem_cons_succ, List.getElem_cons_zero, List.setIfInBounds_toArray, List.set_cons_zero, List.set_cons_succ]
        refine wpAnyH_take (i := 16) (v := ?_) rfl (by kernel_rfl) (by kernel_rfl) (by kernel_rfl) (fun _ _ _ h => h) (Or.inl ⟨by rfl, ?_⟩) (by assumption) ?_
        rotate_left
        · (intro wS hSw; (try dsimp only at hSw); go_simp; (try rw [if_neg (by omega)]); (try with_reducible rfl))
        try simp only [Act.put, List.getElem_toArray, List.getElem_cons_succ, List.getElem_cons_zero, List.setIfInBounds_toArray, List.set_cons_zero, List.set_cons_succ]
        refine wpAnyH_take (i := 17) (v := ?_) rfl (by kernel_rfl) (by kernel_rfl) (by kernel_rfl) (fun _ _ _ h => h) (Or.inl ⟨by rfl, ?_⟩) (by assumption) ?_
        rotate_left
        · (intro wS hSw; (try dsimp only at hSw); go_simp; (try with_reducible rfl))
        try simp only [Act.put, List.getElem_toArray, List.getElem_cons_succ, List.getElem_cons_zero, List.setIfInBounds_toArray, List.set_cons_zero, List.set_cons_succ]
        refine wpAnyH_take (i := 18) (v := ?_) rfl (by kernel_rfl) (by kernel_rfl) (by kernel_rfl) (fun _ _ _ h => h) (Or.inl ⟨by rfl, ?_⟩) (by assumption) ?_
        rotate_left
        · (intro wS hSw; (try dsimp only at hSw); go_simp; (try with_reducible rfl))
        try simp only [Act.put, List.getElem_toArray, List.getElem_cons_succ, List.getElem_cons_zero, List.setIfInBounds_toArray, List.set_cons_zero, List.set_cons_succ]
        refine wpAnyH_done (by kernel_rfl) ?_ _
        go_wp2
        go_ret2
        exact ⟨by rw [hfin.out]; rfl, hHeld.1.2.2.2.2.out⟩
theorem rput_any (k d n : Int) (body : List UInt8) (w : World) (hbl : body.length ≤ 140737488351232) :
    Calls Tryd.prog 11 #[.agg #[.int .i64 k, .int .i64 d, .int .i64 n, .string (mk body)]] w fun en w' => en = .returned (putV ⟨k, d, n, body⟩) ∧ Below w.heap.size w w' := by
  by_cases c : pgOk ⟨k, d, n, body⟩ = true
  · obtain ⟨h1, h2, h3, h4, h5, h6, h7⟩ := pgOk_iff.1 c
    obtain ⟨k, rfl⟩ := Int.eq_ofNat_of_zero_le h1
    obtain ⟨d, rfl⟩ := Int.eq_ofNat_of_zero_le h3
    obtain ⟨n, rfl⟩ := Int.eq_ofNat_of_zero_le h5
    rw [putV, if_pos c]
    exact rput_yes k d n body w (by simp only at h2; omega) (by simp only at h4; omega) (by simp only at h6; omega) h7
  · exact rput_no k d n body w hbl (by simpa using c)
end Go.Proofs.YtcmbofoddfhnjaaDoor
