/- The walk of the law PageTurned. No condition but the table of spaces. -/
import Derived.Test.YtcmbofoddfhnjaaDoorPLZero
import Derived.Test.YtcmbofoddfhnjaaDoorPLSizes
namespace Go.Proofs.YtcmbofoddfhnjaaDoor
open Go.RowKit
attribute [local go_sem] mk_size mk_append lit_append zs_length

/-- What the page was, and a byte that was made. -/
def TS (w0 : World) (k d n : Int) (body : List UInt8) (B : Nat) (v : Value) (w : World) : Prop := PgS w0 k d n body w ∧ w.cell? ⟨B, 0, none⟩ = some v
section
variable {w0 : World} {k d n : Int} {body : List UInt8} {B : Nat} {v : Value} {w w' : World}
theorem PgS.grow1 {t : TypeId} (h : PgS w0 k d n body (w.alloc (.cells #[v] t))) : ∃ B, B = w.heap.size ∧ TS w0 k d n body B v (w.alloc (.cells #[v] t)) :=
  ⟨_, rfl, h, cell_of (heap_alloc_new w _) rfl⟩
theorem PgS.grow1' {t : TypeId} (h : PgS w0 k d n body (w.alloc (.cells #[v] t)).drew) : ∃ B, B = w.heap.size ∧ TS w0 k d n body B v (w.alloc (.cells #[v] t)).drew :=
  ⟨_, rfl, h, cell_of (heap_alloc_new w _) rfl⟩
theorem TS.more (h : TS w0 k d n body B v w) (hb : Below w.heap.size w w') : TS w0 k d n body B v w' := ⟨h.1.more hb, same_cell hb h.2⟩
theorem TS.alloc (h : TS w0 k d n body B v w) (o : Obj) : TS w0 k d n body B v (w.alloc o) := h.more ((Below.refl _ _).alloc (Nat.le_refl _) _)
theorem get_T {b : List UInt8} {V : Value} (hT : Tab w0) (h : TS w0 k d n body B v w) (hd : pgV (pdec b) = V) (hl : b.length ≤ 1000) : Calls Tryd.prog 12 #[.string (mk b)] w fun e w' => e = .returned V ∧ TS w0 k d n body B v w' :=
  (get_any b w (hT.more h.1.2.2.2.2.out) (by omega)).mono fun _ _ ⟨he, hb⟩ => ⟨by rw [he, hd], h.more hb⟩
theorem get_T2 {b : List UInt8} {V : Value} (hT : Tab w0) (h : TS w0 k d n body B v w) (hd : pgV (pdec b) = V) (hl : b.length ≤ 1000) : Calls Tryd.prog 12 #[.string (mk b)] w fun e w' => e = .returned V ∧ TS w0 k d n body B v w' ∧ Below w.heap.size w w' :=
  (get_any b w (hT.more h.1.2.2.2.2.out) (by omega)).mono fun _ _ ⟨he, hb⟩ => ⟨by rw [he, hd], h.more hb, hb⟩
theorem far_cell {C i : Nat} {a : Addr} {u x : Value} (h : w.cell? a = some x) (hne : a.block ≠ C) : (w.setCell ⟨C, i, none⟩ u).cell? a = some x :=
  (World.cell?_of_block (w := w) (Below.heap_setCell w ⟨C, i, none⟩ u a.block hne)).trans h
theorem TS.set {C i : Nat} {u : Value} (h : TS w0 k d n body B v w) (hC : w0.heap.size < C) (hne : B ≠ C) : TS w0 k d n body B v (w.setCell ⟨C, i, none⟩ u) :=
  ⟨⟨far_cell h.1.1 (by simp; omega), far_cell h.1.2.1 (by simp; omega), far_cell h.1.2.2.1 (by simp; omega), far_cell h.1.2.2.2.1 (by simp; omega), Lib.hid (h.1.2.2.2.2.out.setCell (Nat.le_of_lt hC) u)⟩, far_cell h.2 hne⟩
theorem TS.set4 {C : Nat} {a b c e : Value} (h : TS w0 k d n body B v w) (hC : w0.heap.size < C) (hne : B ≠ C) : TS w0 k d n body B v ((((w.setCell ⟨C, 0, none⟩ a).setCell ⟨C, 1, none⟩ b).setCell ⟨C, 2, none⟩ c).setCell ⟨C, 3, none⟩ e) :=
  (((h.set hC hne).set hC hne).set hC hne).set hC hne
/-- The page that came in and the one that was read. -/
def FS (w0 : World) (k d n : Int) (body : List UInt8) (C : Nat) (a b c e : Value) (w : World) : Prop := PgS w0 k d n body w ∧ w.cell? ⟨C, 0, none⟩ = some a ∧ w.cell? ⟨C, 1, none⟩ = some b ∧ w.cell? ⟨C, 2, none⟩ = some c ∧ w.cell? ⟨C, 3, none⟩ = some e
theorem FS.new {a b c e : Value} {t : TypeId} (h : TS w0 k d n body B v (w.alloc (.cells #[a, b, c, e] t))) : FS w0 k d n body w.heap.size a b c e (w.alloc (.cells #[a, b, c, e] t)) :=
  ⟨h.1, cell_of (heap_alloc_new w _) rfl, cell_of (heap_alloc_new w _) rfl, cell_of (heap_alloc_new w _) rfl, cell_of (heap_alloc_new w _) rfl⟩
theorem FS.set {C : Nat} {a b c e a' b' c' e' : Value} (h0 : w.cell? ⟨C, 0, none⟩ = some a') (h1 : w.cell? ⟨C, 1, none⟩ = some b') (h2 : w.cell? ⟨C, 2, none⟩ = some c') (h3 : w.cell? ⟨C, 3, none⟩ = some e')
    (h : TS w0 k d n body B v ((((w.setCell ⟨C, 0, none⟩ a).setCell ⟨C, 1, none⟩ b).setCell ⟨C, 2, none⟩ c).setCell ⟨C, 3, none⟩ e)) : FS w0 k d n body C a b c e ((((w.setCell ⟨C, 0, none⟩ a).setCell ⟨C, 1, none⟩ b).setCell ⟨C, 2, none⟩ c).setCell ⟨C, 3, none⟩ e) := by
  refine ⟨h.1, ?_, ?_, ?_, ?_⟩
  · rw [World.cell?_setCell_other _ _ _ _ (by simp), World.cell?_setCell_other _ _ _ _ (by simp), World.cell?_setCell_other _ _ _ _ (by simp)]; exact World.cell?_setCell_same _ _ _ h0
  · rw [World.cell?_setCell_other _ _ _ _ (by simp), World.cell?_setCell_other _ _ _ _ (by simp)]; exact World.cell?_setCell_same _ _ _ ((World.cell?_setCell_other _ _ _ _ (by simp)).trans h1)
  · rw [World.cell?_setCell_other _ _ _ _ (by simp)]; exact World.cell?_setCell_same _ _ _ ((World.cell?_setCell_other _ _ _ _ (by simp)).trans ((World.cell?_setCell_other _ _ _ _ (by simp)).trans h2))
  · exact World.cell?_setCell_same _ _ _ ((World.cell?_setCell_other _ _ _ _ (by simp)).trans ((World.cell?_setCell_other _ _ _ _ (by simp)).trans ((World.cell?_setCell_other _ _ _ _ (by simp)).trans h3)))
end

/-- A byte that was turned: the text is another one. -/
theorem turn_ne (b : List UInt8) (k : Nat) (hk : k < b.length) (x : UInt8) (hx : b.getD k 0 ≠ x) : b ≠ b.take k ++ ([x] ++ b.drop (k + 1)) := by
  intro h
  have := congrArg (fun l => l[k]?) h
  rw [List.getElem?_append_right (by rw [List.length_take]; omega), List.length_take, Nat.min_eq_left (by omega), Nat.sub_self, List.getElem?_eq_getElem hk] at this
  rw [List.getD, List.getElem?_eq_getElem hk] at hx
  exact hx (Option.some.inj this)
theorem turn_nz (p : Pg) (k : Nat) (hl : (penc p).length = 256) (x : UInt8) : (penc p).take k ++ ([x] ++ (penc p).drop (k + 1)) ≠ zs 256 := by
  intro h
  have h1 : ∀ j, j < 256 → ((penc p).take k ++ ([x] ++ (penc p).drop (k + 1)))[j]? = some 0 := by
    intro j hj
    rw [h, zs, List.getElem?_replicate, if_pos hj]
  by_cases c : k = 0
  · subst c
    have h2 := h1 1 (by omega)
    exact absurd (Option.some.inj (show some (71 : UInt8) = some 0 from h2)) (by decide)
  · obtain ⟨m, rfl⟩ := Nat.exists_eq_succ_of_ne_zero c
    have h2 := h1 0 (by omega)
    exact absurd (Option.some.inj (show some (80 : UInt8) = some 0 from h2)) (by decide)
theorem bits_xor_u8 (a b : UInt8) : bits .xor .u8 (a.toNat : Int) (b.toNat : Int) = ((a ^^^ b).toNat : Int) := by
  have ha := a.toNat_lt
  have hb := b.toNat_lt
  have hx : a.toNat ^^^ b.toNat < 2 ^ 8 := Nat.xor_lt_two_pow (by omega) (by omega)
  have h1 : (BitVec.ofInt 8 (a.toNat : Int)).toNat = a.toNat := by
    rw [BitVec.ofInt_natCast, BitVec.toNat_ofNat]; exact Nat.mod_eq_of_lt (by omega)
  have h2 : (BitVec.ofInt 8 (b.toNat : Int)).toNat = b.toNat := by
    rw [BitVec.ofInt_natCast, BitVec.toNat_ofNat]; exact Nat.mod_eq_of_lt (by omega)
  show IntKind.u8.wrap ((BitVec.ofInt 8 (a.toNat : Int) ^^^ BitVec.ofInt 8 (b.toNat : Int)).toNat : Int) = _
  rw [BitVec.toNat_xor, h1, h2, IntKind.wrap_u8, UInt8.toNat_xor]
  omega
theorem xor_ne (a x : UInt8) (h : x ≠ 0) : a ≠ a ^^^ x := by
  intro e
  apply h
  have : a ^^^ (a ^^^ x) = a ^^^ a := by rw [← e]
  simpa [← UInt8.xor_assoc] using this

set_option maxRecDepth 100000 in
set_option maxHeartbeats 1600000 in
theorem pageTurned_walk (v : Value) (p : Pg) (n x : Int) (w : World) (hT : Tab w) (hv : IsPage w v p) (w0 : (Lit.int .i64 n).wf = true) (w1 : (Lit.int .u8 x).wf = true) :
    Calls Tryd.prog 7 #[v, .int .i64 n, .int .u8 x] w fun e w' => e = .returned (.bool true) ∧ Below w.heap.size w w' := by
  obtain ⟨x1, x2⟩ := wf_u8 w1
  obtain ⟨xb, rfl⟩ : ∃ xb : UInt8, x = xb.toNat := ⟨UInt8.ofNat x.toNat, by rw [UInt8.toNat_ofNat', Nat.mod_eq_of_lt (by omega)]; omega⟩
  obtain ⟨rfl, q1, q2, q3, hlb⟩ := hv
  obtain ⟨k, d, nx, body⟩ := p
  unfold pgA
  simp only at hlb q1 q2 q3 ⊢
  have hal : ∀ o, Tab (w.alloc o) := fun o => hT.more ((Below.refl _ _).alloc (Nat.le_refl _) _)
  replace hal := Lib.hid hal
  by_cases d1 : 300 < (body.length : Int)
  · go_enter Tryd.func7, Tryd.ntmps7
    go_wp2_with fail
    refine (alive_true _ (hal.out _)).mono ?_
    rintro e w2 ⟨rfl, h2⟩
    go_wp2
    go_ret
    exact ⟨rfl, ((Below.refl _ _).alloc (Nat.le_refl _) _).trans (h2.mono (by simp))⟩
  by_cases d2 : xb = 0
  · subst d2
    go_enter Tryd.func7, Tryd.ntmps7
    go_wp2_with fail
    refine (alive_true _ (hal.out _)).mono ?_
    rintro e w2 ⟨rfl, h2⟩
    go_wp2
    go_ret
    exact ⟨rfl, ((Below.refl _ _).alloc (Nat.le_refl _) _).trans (h2.mono (by simp))⟩
  have d3 : ((xb.toNat : Int) == 0) = false := by
    rw [beq_eq_false_iff_ne]
    intro h
    exact d2 (UInt8.toNat_inj.1 (by simpa using h))
  obtain ⟨pv, hpv⟩ : ∃ pv, pv = (⟨k, d, nx, body⟩ : Pg) := ⟨_, rfl⟩
  cases hok : pgOk pv with
  | false =>
    replace hok := Lib.hid hok
    replace hpv := Lib.hid hpv
    go_enter Tryd.func7, Tryd.ntmps7
    go_wp2_with fail
    refine (alive_true _ (hal.out _)).mono ?_
    rintro e w2 ⟨rfl, h2⟩
    have hS := (PgS.start w k d nx body 23).more h2
    obtain ⟨c0, c1, c2, c3, hb2⟩ := hS
    have hT2 := hT.more hb2.out
    clear h2
    go_wp2_with fail
    refine (put_any k d nx body _ hT2 (by omega)).mono ?_
    rintro e w3 ⟨rfl, h3⟩
    rw [← hpv.out, putV, if_neg (by rw [hok.out]; decide)]
    go_wp2
    go_ret
    exact ⟨rfl, hb2.out.trans (h3.mono hb2.out.size)⟩
  | true =>
    have hl := penc_length (pgOk_iff.1 hok).2.2.2.2.2.2
    obtain ⟨b, hb⟩ : ∃ b, b = penc pv := ⟨_, rfl⟩
    have hbl : b.length = 256 := by rw [hb, hl]
    have hbs : (mk b).size = 256 := by rw [mk_size, hbl]
    have hq1 := Int.lt_tmod_of_pos n (show (0 : Int) < 256 by omega)
    have hq2 := Int.tmod_lt_of_pos n (show (0 : Int) < 256 by omega)
    obtain ⟨q, hq⟩ : ∃ q, n.tmod 256 = q := ⟨_, rfl⟩
    rw [hq] at hq1 hq2
    obtain ⟨j, hk⟩ : ∃ j : Nat, (q + 256) % 256 = (j : Int) := ⟨((q + 256) % 256).toNat, by rw [Int.toNat_of_nonneg (Int.emod_nonneg _ (by omega))]⟩
    have hk2 : (q + 256).tmod 256 = (j : Int) := by rw [Int.tmod_eq_emod_of_nonneg (by omega), hk]
    have hk3 : j < 256 := by have := Int.emod_lt_of_pos (q + 256) (show (0 : Int) < 256 by omega); omega
    have hkb : j < b.length := by omega
    obtain ⟨y, hy⟩ : ∃ y, y = b.getD j 0 := ⟨_, rfl⟩
    have hs1 := sl_to b j j rfl (by omega)
    have hs2 := sl_from b (j + 1) ((j : Int) + 1) (by push_cast; rfl) (by omega)
    have hwk : IntKind.i64.wrap ((j : Int) + 1) = (j : Int) + 1 := by rw [IntKind.wrap_i64]; omega
    have hlen : (b.take j ++ ([y ^^^ xb] ++ b.drop (j + 1))).length ≤ 1000 := by
      simp only [List.length_append, List.length_take, List.length_drop, List.length_singleton]; omega
    obtain ⟨pa, pb, pc, ps, pf, hpg, hpf⟩ : ∃ pa pb pc ps pf, pgV (pdec (b.take j ++ ([y ^^^ xb] ++ b.drop (j + 1)))) = .tuple #[.agg #[.int .i64 pa, .int .i64 pb, .int .i64 pc, .string (mk ps)], .bool pf] ∧ (pf = false ∨ (⟨pa, pb, pc, ps⟩ : Pg) ≠ pv) := by
      cases hd : pdec (b.take j ++ ([y ^^^ xb] ++ b.drop (j + 1))) with
      | none => exact ⟨_, _, _, [], _, rfl, .inl rfl⟩
      | some g =>
        refine ⟨_, _, _, _, _, rfl, .inr ?_⟩
        refine pdec_turned hd ?_ ?_
        · rw [← hb]; exact turn_ne b j hkb _ (by rw [← hy]; exact xor_ne y xb d2)
        · rw [hb]; exact turn_nz pv j hl _
    have hix : ∀ w, (Instr.index 9 (.string (mk b)) (.int .i64 j)).run Tryd.prog w = .ok (.int .u8 y.toNat) w := by
      intro w
      rw [run_index_string (h := Tryd.underlying9), dif_pos ⟨by omega, by rw [hbs]; omega⟩, hy, ← mk_get b j (by rw [hbs]; omega)]
      rfl
    have hxo := bits_xor_u8 y xb
    replace hpg := Lib.hid hpg
    replace hpf := Lib.hid hpf
    replace hok := Lib.hid hok
    replace hpv := Lib.hid hpv
    replace hb := Lib.hid hb
    replace hl := Lib.hid hl
    replace hy := Lib.hid hy
    go_enter Tryd.func7, Tryd.ntmps7
    go_wp2_with fail
    refine (alive_true _ (hal.out _)).mono ?_
    rintro e w2 ⟨rfl, h2⟩
    have hS := (PgS.start w k d nx body 23).more h2
    obtain ⟨c0, c1, c2, c3, hb2⟩ := hS
    have hT2 := hT.more hb2.out
    clear h2
    go_wp2_with fail
    refine (put_any k d nx body _ hT2 (by omega)).mono ?_
    rintro e w3 ⟨rfl, h3⟩
    rw [← hpv.out, putV, if_pos hok.out, ← hb.out]
    have hS8 : PgS w k d nx body w3 := PgS.more (w := w2) ⟨c0, c1, c2, c3, hb2⟩ h3
    clear h3 hT2 c0 c1 c2 c3 hb2
    go_wp2
    refine wp_region_held_drew (S := PgS w k d nx body) (by kernel_rfl) hS8.drew (fun hHeld => ?_)
    refine wpAnyH_take (i := 0) (v := ?_) rfl (by kernel_rfl) (by kernel_rfl) (by kernel_rfl) (fun _ _ _ h => h) (Or.inl ⟨by rfl, ?_⟩) (by assumption) ?_
    rotate_left
    · (intro wS hSw; (try dsimp only at hSw); go_simp; (try with_reducible rfl))
    try simp only [Act.put, List.getElem_toArray, List.getElem_cons_zero, List.setIfInBounds_toArray, List.set_cons_zero, List.set_cons_succ]
    refine wpAnyH_take (i := 1) (v := ?_) rfl (by kernel_rfl) (by kernel_rfl) (by kernel_rfl) (fun _ _ _ h => h) (Or.inl ⟨by rfl, ?_⟩) (by assumption) ?_
    rotate_left
    · (intro wS hSw; (try dsimp only at hSw); go_simp; (try with_reducible rfl))
    try simp only [Act.put, List.getElem_toArray, List.getElem_cons_succ, List.getElem_cons_zero, List.setIfInBounds_toArray, List.set_cons_zero, List.set_cons_succ]
    refine wpAnyH_take (i := 2) (v := ?_) rfl (by kernel_rfl) (by kernel_rfl) (by kernel_rfl) (fun _ _ _ h => h) (Or.inl ⟨by rfl, ?_⟩) (by assumption) ?_
    rotate_left
    · (intro wS hSw; (try dsimp only at hSw); go_simp; (try with_reducible rfl))
    try simp only [Act.put, List.getElem_toArray, List.getElem_cons_succ, List.getElem_cons_zero, List.setIfInBounds_toArray, List.set_cons_zero, List.set_cons_succ]
    refine wpAnyH_take (i := 3) (v := ?_) rfl (by kernel_rfl) (by kernel_rfl) (by kernel_rfl) (fun _ _ _ h => h) (Or.inl ⟨by rfl, ?_⟩) (by assumption) ?_
    rotate_left
    · (intro wS hSw; (try dsimp only at hSw); go_simp; (try with_reducible rfl))
    try simp only [Act.put, List.getElem_toArray, List.getElem_cons_succ, List.getElem_cons_zero, List.setIfInBounds_toArray, List.set_cons_zero, List.set_cons_succ]
    refine wpAnyH_take (i := 4) (v := ?_) rfl (by kernel_rfl) (by kernel_rfl) (by kernel_rfl) (fun _ _ _ h => h) (Or.inl ⟨by rfl, ?_⟩) (by assumption) ?_
    rotate_left
    · (intro wS hSw; (try dsimp only at hSw); go_simp; (try with_reducible rfl))
    try simp only [Act.put, List.getElem_toArray, List.getElem_cons_succ, List.getElem_cons_zero, List.setIfInBounds_toArray, List.set_cons_zero, List.set_cons_succ]
    refine wpAnyH_take (i := 5) (v := ?_) rfl (by kernel_rfl) (by kernel_rfl) (by kernel_rfl) (fun _ _ _ h => h) (Or.inl ⟨by rfl, ?_⟩) (by assumption) ?_
    rotate_left
    · (intro wS hSw; (try dsimp only at hSw); go_simp; (try with_reducible rfl))
    try simp only [Act.put, List.getElem_toArray, List.getElem_cons_succ, List.getElem_cons_zero, List.setIfInBounds_toArray, List.set_cons_zero, List.set_cons_succ]
    refine wpAnyH_take (i := 6) (v := ?_) rfl (by kernel_rfl) (by kernel_rfl) (by kernel_rfl) (fun _ _ _ h => h) (Or.inl ⟨by rfl, ?_⟩) (by assumption) ?_
    rotate_left
    · (intro wS hSw; (try dsimp only at hSw); go_simp; (try with_reducible rfl))
    try simp only [Act.put, List.getElem_toArray, List.getElem_cons_succ, List.getElem_cons_zero, List.setIfInBounds_toArray, List.set_cons_zero, List.set_cons_succ]
    refine wpAnyH_take (i := 7) (v := ?_) rfl (by kernel_rfl) (by kernel_rfl) (by kernel_rfl) (fun _ _ _ h => h) (Or.inl ⟨by rfl, ?_⟩) (by assumption) ?_
    rotate_left
    · (intro wS hSw; (try dsimp only at hSw); go_simp; (try with_reducible rfl))
    try simp only [Act.put, List.getElem_toArray, List.getElem_cons_succ, List.getElem_cons_zero, List.setIfInBounds_toArray, List.set_cons_zero, List.set_cons_succ]
    refine wpAnyH_take (i := 11) (v := ?_) rfl (by kernel_rfl) (by kernel_rfl) (by kernel_rfl) (fun _ _ _ h => h) (Or.inl ⟨by rfl, ?_⟩) (by assumption) ?_
    rotate_left
    · (intro wS hSw; (try dsimp only at hSw); go_simp; (try with_reducible rfl))
    try simp only [Act.put, List.getElem_toArray, List.getElem_cons_succ, List.getElem_cons_zero, List.setIfInBounds_toArray, List.set_cons_zero, List.set_cons_succ]
    refine wpAnyH_take (i := 12) (v := ?_) rfl (by kernel_rfl) (by kernel_rfl) (by kernel_rfl) (fun _ _ _ h => h) (Or.inl ⟨by rfl, ?_⟩) (by assumption) ?_
    rotate_left
    · (intro wS hSw; (try dsimp only at hSw); go_simp; (try with_reducible rfl))
    try simp only [Act.put, List.getElem_toArray, List.getElem_cons_succ, List.getElem_cons_zero, List.setIfInBounds_toArray, List.set_cons_zero, List.set_cons_succ]
    refine wpAnyH_take (i := 13) (v := ?_) rfl (by kernel_rfl) (by kernel_rfl) (by kernel_rfl) (fun _ _ _ h => h) (Or.inl ⟨by rfl, ?_⟩) (by assumption) ?_
    rotate_left
    · (intro wS hSw; (try dsimp only at hSw); go_simp; (try with_reducible rfl))
    try simp only [Act.put, List.getElem_toArray, List.getElem_cons_succ, List.getElem_cons_zero, List.setIfInBounds_toArray, List.set_cons_zero, List.set_cons_succ]
    refine wpAnyH_take (i := 14) (v := ?_) rfl (by kernel_rfl) (by kernel_rfl) (by kernel_rfl) (fun _ _ _ h => h) (Or.inl ⟨by rfl, ?_⟩) (by assumption) ?_
    rotate_left
    · (intro wS hSw; (try dsimp only at hSw); go_simp; (try with_reducible rfl))
    try simp only [Act.put, List.getElem_toArray, List.getElem_cons_succ, List.getElem_cons_zero, List.setIfInBounds_toArray, List.set_cons_zero, List.set_cons_succ]
    refine wpAnyH_ready (rs := [8, 20]) (by kernel_rfl) (by simp) ?_
    refine AllReadyH.cons rfl (fun K hK => ?_) (AllReadyH.cons rfl (fun K hK => ?_) AllReadyH.nil)
    · simp only [List.getElem_toArray, List.getElem_cons_succ, List.getElem_cons_zero]
      go_simp
      refine hK.out _ _ (PgS.alloc (by assumption) _) (fun hHeld => ?_)
      clear hK K
      try simp only [Act.put, List.getElem_toArray, List.getElem_cons_succ, List.getElem_cons_zero, List.setIfInBounds_toArray, List.set_cons_zero, List.set_cons_succ]
      obtain ⟨B, hBe, hG⟩ := (by first | exact PgS.grow1 hHeld | exact PgS.grow1' hHeld)
      (try simp at hBe)
      replace hBe := Lib.hid hBe
      refine wpAnyH_moreZ (S' := TS w k d nx body B (.int .u8 (y ^^^ xb).toNat)) (fun _ h => h.1) ?_
      clear hHeld
      have hHeld := hG
      refine wpAnyH_take (i := 9) (v := ?_) rfl (by kernel_rfl) (by kernel_rfl) (by kernel_rfl) (fun _ _ _ h => h) (Or.inl ⟨by rfl, ?_⟩) (by assumption) ?_
      rotate_left
      · (intro wS hSw; (try dsimp only at hSw); have hcv := conv1 (y ^^^ xb) _ _ hSw.2; rw [← hBe.out]; go_simp; (try with_reducible rfl))
      try simp only [Act.put, List.getElem_toArray, List.getElem_cons_succ, List.getElem_cons_zero, List.setIfInBounds_toArray, List.set_cons_zero, List.set_cons_succ]
      refine wpAnyH_take (i := 10) (v := ?_) rfl (by kernel_rfl) (by kernel_rfl) (by kernel_rfl) (fun _ _ _ h => h) (Or.inl ⟨by rfl, ?_⟩) (by assumption) ?_
      rotate_left
      · (intro wS hSw; (try dsimp only at hSw); go_simp; rw [if_neg (by omega)]; (try with_reducible rfl))
      try simp only [Act.put, List.getElem_toArray, List.getElem_cons_succ, List.getElem_cons_zero, List.setIfInBounds_toArray, List.set_cons_zero, List.set_cons_succ]
      refine wpAnyH_take (i := 15) (v := ?_) rfl (by kernel_rfl) (by kernel_rfl) (by kernel_rfl) (fun _ _ _ h => h) (Or.inl ⟨by rfl, ?_⟩) (by assumption) ?_
      rotate_left
      · (intro wS hSw; (try dsimp only at hSw); go_simp; rw [if_neg (by omega)]; (try with_reducible rfl))
      try simp only [Act.put, List.getElem_toArray, List.getElem_cons_succ, List.getElem_cons_zero, List.setIfInBounds_toArray, List.set_cons_zero, List.set_cons_succ]
      refine wpAnyH_ready (rs := [16, 20]) (by kernel_rfl) (by simp) ?_
      refine AllReadyH.cons rfl (fun K hK => ?_) (AllReadyH.cons rfl (fun K hK => ?_) AllReadyH.nil)
      · simp only [List.getElem_toArray, List.getElem_cons_succ, List.getElem_cons_zero]
        go_simp
        (go_at_call 12; refine (get_T hT (by assumption) hpg.out hlen).mono ?_; rintro en wq ⟨rfl, hq⟩)
        go_wp2_with fail
        refine hK.out _ _ (by assumption) (fun hHeld => ?_)
        clear hK K
        try simp only [Act.put, List.getElem_toArray, List.getElem_cons_succ, List.getElem_cons_zero, List.setIfInBounds_toArray, List.set_cons_zero, List.set_cons_succ]
        refine wpAnyH_take (i := 17) (v := ?_) rfl (by kernel_rfl) (by kernel_rfl) (by kernel_rfl) (fun _ _ _ h => h) (Or.inl ⟨by rfl, ?_⟩) (by assumption) ?_
        rotate_left
        · (intro wS hSw; (try dsimp only at hSw); go_simp; (try with_reducible rfl))
        try simp only [Act.put, List.getElem_toArray, List.getElem_cons_succ, List.getElem_cons_zero, List.setIfInBounds_toArray, List.set_cons_zero, List.set_cons_succ]
        refine wpAnyH_take (i := 18) (v := ?_) rfl (by kernel_rfl) (by kernel_rfl) (by kernel_rfl) (fun _ _ _ h => h) (Or.inl ⟨by rfl, ?_⟩) (by assumption) ?_
        rotate_left
        · (intro wS hSw; (try dsimp only at hSw); go_simp; (try with_reducible rfl))
        try simp only [Act.put, List.getElem_toArray, List.getElem_cons_succ, List.getElem_cons_zero, List.setIfInBounds_toArray, List.set_cons_zero, List.set_cons_succ]
        refine wpAnyH_take (i := 19) (v := ?_) rfl (by kernel_rfl) (by kernel_rfl) (by kernel_rfl) (fun _ _ _ h => h) (Or.inl ⟨by rfl, ?_⟩) (by assumption) ?_
        rotate_left
        · (intro wS hSw; (try dsimp only at hSw); go_simp; (try with_reducible rfl))
        try simp only [Act.put, List.getElem_toArray, List.getElem_cons_succ, List.getElem_cons_zero, List.setIfInBounds_toArray, List.set_cons_zero, List.set_cons_succ]
        refine wpAnyH_ready (rs := [20]) (by kernel_rfl) (by simp) ?_
        refine AllReadyH.cons rfl (fun K hK => ?_) AllReadyH.nil
        · simp only [List.getElem_toArray, List.getElem_cons_succ, List.getElem_cons_zero]
          go_simp
          refine hK.out _ _ (TS.alloc (by assumption) _) (fun hHeld => ?_)
          clear hK K
          try simp only [Act.put, List.getElem_toArray, List.getElem_cons_succ, List.getElem_cons_zero, List.setIfInBounds_toArray, List.set_cons_zero, List.set_cons_succ]
          refine wpAnyH_ready (rs := [21]) (by kernel_rfl) (by simp) ?_
          refine AllReadyH.cons rfl (fun K hK => ?_) AllReadyH.nil
          · simp only [List.getElem_toArray, List.getElem_cons_succ, List.getElem_cons_zero]
            go_simp
            refine hK.out _ _ (TS.alloc (by assumption) _) (fun hHeld => ?_)
            clear hK K
            try simp only [Act.put, List.getElem_toArray, List.getElem_cons_succ, List.getElem_cons_zero, List.setIfInBounds_toArray, List.set_cons_zero, List.set_cons_succ]
            refine wpAnyH_take (i := 22) (v := ?_) rfl (by kernel_rfl) (by kernel_rfl) (by kernel_rfl) (fun _ _ _ h => h) (Or.inl ⟨by rfl, ?_⟩) (by assumption) ?_
            rotate_left
            · (intro wS hSw; (try dsimp only at hSw); go_simp; (try with_reducible rfl))
            try simp only [Act.put, List.getElem_toArray, List.getElem_cons_succ, List.getElem_cons_zero, List.setIfInBounds_toArray, List.set_cons_zero, List.set_cons_succ]
            refine wpAnyH_done (by kernel_rfl) ?_ _
            have hF := FS.new hHeld
            clear hHeld
            (try clear c0 c1 c2 c3 fz)
            generalize World.alloc _ _ = wE at hF ⊢
            obtain ⟨⟨p0, p1, p2, p3, hbe⟩, e0, e1, e2, e3⟩ := hF
            go_wp2
            all_goals first | (go_ret; exact ⟨rfl, hbe.out⟩) | (exfalso; have hp := hpv.out; have hf := hpf.out; simp_all)
      · simp only [List.getElem_toArray, List.getElem_cons_succ, List.getElem_cons_zero]
        go_simp
        refine hK.out _ _ (TS.alloc (by assumption) _) (fun hHeld => ?_)
        clear hK K
        try simp only [Act.put, List.getElem_toArray, List.getElem_cons_succ, List.getElem_cons_zero, List.setIfInBounds_toArray, List.set_cons_zero, List.set_cons_succ]
        refine wpAnyH_ready (rs := [16]) (by kernel_rfl) (by simp) ?_
        refine AllReadyH.cons rfl (fun K hK => ?_) AllReadyH.nil
        · simp only [List.getElem_toArray, List.getElem_cons_succ, List.getElem_cons_zero]
          go_simp
          (go_at_call 12; refine (get_T2 hT (by assumption) hpg.out hlen).mono ?_; rintro en wq ⟨rfl, hq, hb⟩)
          go_wp2_with fail
          refine hK.out _ _ (by assumption) (fun hHeld => ?_)
          clear hK K
          try simp only [Act.put, List.getElem_toArray, List.getElem_cons_succ, List.getElem_cons_zero, List.setIfInBounds_toArray, List.set_cons_zero, List.set_cons_succ]
          have hblk := (by first | exact blkA hb | exact blkA' hb)
          obtain ⟨c0, c1, c2, c3, fz⟩ := cells4 hblk
          clear hblk hb
          refine wpAnyH_take (i := 17) (v := ?_) rfl (by kernel_rfl) (by kernel_rfl) (by kernel_rfl) (fun _ _ _ h => h) (Or.inl ⟨by rfl, ?_⟩) (by assumption) ?_
          rotate_left
          · (intro wS hSw; (try dsimp only at hSw); go_simp; (try with_reducible rfl))
          try simp only [Act.put, List.getElem_toArray, List.getElem_cons_succ, List.getElem_cons_zero, List.setIfInBounds_toArray, List.set_cons_zero, List.set_cons_succ]
          refine wpAnyH_take (i := 18) (v := ?_) rfl (by kernel_rfl) (by kernel_rfl) (by kernel_rfl) (fun _ _ _ h => h) (Or.inl ⟨by rfl, ?_⟩) (by assumption) ?_
          rotate_left
          · (intro wS hSw; (try dsimp only at hSw); go_simp; (try with_reducible rfl))
          try simp only [Act.put, List.getElem_toArray, List.getElem_cons_succ, List.getElem_cons_zero, List.setIfInBounds_toArray, List.set_cons_zero, List.set_cons_succ]
          refine wpAnyH_take (i := 19) (v := ?_) rfl (by kernel_rfl) (by kernel_rfl) (by kernel_rfl) (fun _ _ _ h => h) (Or.inl ⟨by rfl, ?_⟩) (by assumption) ?_
          rotate_left
          · (intro wS hSw; (try dsimp only at hSw); go_simp; (try with_reducible rfl))
          try simp only [Act.put, List.getElem_toArray, List.getElem_cons_succ, List.getElem_cons_zero, List.setIfInBounds_toArray, List.set_cons_zero, List.set_cons_succ]
          refine wpAnyH_ready (rs := [21]) (by kernel_rfl) (by simp) ?_
          refine AllReadyH.cons rfl (fun K hK => ?_) AllReadyH.nil
          · simp only [List.getElem_toArray, List.getElem_cons_succ, List.getElem_cons_zero]
            go_simp
            refine hK.out _ _ (TS.set4 (by assumption) (by have := World.block_lt_of_cell? _ _ hS8.1; dsimp only at this; omega) (by have := hBe.out; omega)) (fun hHeld => ?_)
            clear hK K
            try simp only [Act.put, List.getElem_toArray, List.getElem_cons_succ, List.getElem_cons_zero, List.setIfInBounds_toArray, List.set_cons_zero, List.set_cons_succ]
            refine wpAnyH_take (i := 22) (v := ?_) rfl (by kernel_rfl) (by kernel_rfl) (by kernel_rfl) (fun _ _ _ h => h) (Or.inl ⟨by rfl, ?_⟩) (by assumption) ?_
            rotate_left
            · (intro wS hSw; (try dsimp only at hSw); go_simp; (try with_reducible rfl))
            try simp only [Act.put, List.getElem_toArray, List.getElem_cons_succ, List.getElem_cons_zero, List.setIfInBounds_toArray, List.set_cons_zero, List.set_cons_succ]
            refine wpAnyH_done (by kernel_rfl) ?_ _
            have hF := FS.set c0 c1 c2 c3 hHeld
            clear hHeld
            (try clear c0 c1 c2 c3 fz)
            generalize World.setCell _ _ _ = wE at hF ⊢
            obtain ⟨⟨p0, p1, p2, p3, hbe⟩, e0, e1, e2, e3⟩ := hF
            go_wp2
            all_goals first | (go_ret; exact ⟨rfl, hbe.out⟩) | (exfalso; have hp := hpv.out; have hf := hpf.out; simp_all)
    · simp only [List.getElem_toArray, List.getElem_cons_succ, List.getElem_cons_zero]
      go_simp
      refine hK.out _ _ (PgS.alloc (by assumption) _) (fun hHeld => ?_)
      clear hK K
      try simp only [Act.put, List.getElem_toArray, List.getElem_cons_succ, List.getElem_cons_zero, List.setIfInBounds_toArray, List.set_cons_zero, List.set_cons_succ]
      refine wpAnyH_ready (rs := [8]) (by kernel_rfl) (by simp) ?_
      refine AllReadyH.cons rfl (fun K hK => ?_) AllReadyH.nil
      · simp only [List.getElem_toArray, List.getElem_cons_succ, List.getElem_cons_zero]
        go_simp
        refine hK.out _ _ (PgS.alloc (by assumption) _) (fun hHeld => ?_)
        clear hK K
        try simp only [Act.put, List.getElem_toArray, List.getElem_cons_succ, List.getElem_cons_zero, List.setIfInBounds_toArray, List.set_cons_zero, List.set_cons_succ]
        obtain ⟨B, hBe, hG⟩ := (by first | exact PgS.grow1 hHeld | exact PgS.grow1' hHeld)
        (try simp at hBe)
        replace hBe := Lib.hid hBe
        refine wpAnyH_moreZ (S' := TS w k d nx body B (.int .u8 (y ^^^ xb).toNat)) (fun _ h => h.1) ?_
        clear hHeld
        have hHeld := hG
        refine wpAnyH_take (i := 9) (v := ?_) rfl (by kernel_rfl) (by kernel_rfl) (by kernel_rfl) (fun _ _ _ h => h) (Or.inl ⟨by rfl, ?_⟩) (by assumption) ?_
        rotate_left
        · (intro wS hSw; (try dsimp only at hSw); have hcv := conv1 (y ^^^ xb) _ _ hSw.2; rw [← hBe.out]; go_simp; (try with_reducible rfl))
        try simp only [Act.put, List.getElem_toArray, List.getElem_cons_succ, List.getElem_cons_zero, List.setIfInBounds_toArray, List.set_cons_zero, List.set_cons_succ]
        refine wpAnyH_take (i := 10) (v := ?_) rfl (by kernel_rfl) (by kernel_rfl) (by kernel_rfl) (fun _ _ _ h => h) (Or.inl ⟨by rfl, ?_⟩) (by assumption) ?_
        rotate_left
        · (intro wS hSw; (try dsimp only at hSw); go_simp; rw [if_neg (by omega)]; (try with_reducible rfl))
        try simp only [Act.put, List.getElem_toArray, List.getElem_cons_succ, List.getElem_cons_zero, List.setIfInBounds_toArray, List.set_cons_zero, List.set_cons_succ]
        refine wpAnyH_take (i := 15) (v := ?_) rfl (by kernel_rfl) (by kernel_rfl) (by kernel_rfl) (fun _ _ _ h => h) (Or.inl ⟨by rfl, ?_⟩) (by assumption) ?_
        rotate_left
        · (intro wS hSw; (try dsimp only at hSw); go_simp; rw [if_neg (by omega)]; (try with_reducible rfl))
        try simp only [Act.put, List.getElem_toArray, List.getElem_cons_succ, List.getElem_cons_zero, List.setIfInBounds_toArray, List.set_cons_zero, List.set_cons_succ]
        refine wpAnyH_ready (rs := [16]) (by kernel_rfl) (by simp) ?_
        refine AllReadyH.cons rfl (fun K hK => ?_) AllReadyH.nil
        · simp only [List.getElem_toArray, List.getElem_cons_succ, List.getElem_cons_zero]
          go_simp
          (go_at_call 12; refine (get_T2 hT (by assumption) hpg.out hlen).mono ?_; rintro en wq ⟨rfl, hq, hb⟩)
          go_wp2_with fail
          refine hK.out _ _ (by assumption) (fun hHeld => ?_)
          clear hK K
          try simp only [Act.put, List.getElem_toArray, List.getElem_cons_succ, List.getElem_cons_zero, List.setIfInBounds_toArray, List.set_cons_zero, List.set_cons_succ]
          have hblk := (by first | exact blkB hb | exact blkB' hb)
          obtain ⟨c0, c1, c2, c3, fz⟩ := cells4 hblk
          clear hblk hb
          refine wpAnyH_take (i := 17) (v := ?_) rfl (by kernel_rfl) (by kernel_rfl) (by kernel_rfl) (fun _ _ _ h => h) (Or.inl ⟨by rfl, ?_⟩) (by assumption) ?_
          rotate_left
          · (intro wS hSw; (try dsimp only at hSw); go_simp; (try with_reducible rfl))
          try simp only [Act.put, List.getElem_toArray, List.getElem_cons_succ, List.getElem_cons_zero, List.setIfInBounds_toArray, List.set_cons_zero, List.set_cons_succ]
          refine wpAnyH_take (i := 18) (v := ?_) rfl (by kernel_rfl) (by kernel_rfl) (by kernel_rfl) (fun _ _ _ h => h) (Or.inl ⟨by rfl, ?_⟩) (by assumption) ?_
          rotate_left
          · (intro wS hSw; (try dsimp only at hSw); go_simp; (try with_reducible rfl))
          try simp only [Act.put, List.getElem_toArray, List.getElem_cons_succ, List.getElem_cons_zero, List.setIfInBounds_toArray, List.set_cons_zero, List.set_cons_succ]
          refine wpAnyH_take (i := 19) (v := ?_) rfl (by kernel_rfl) (by kernel_rfl) (by kernel_rfl) (fun _ _ _ h => h) (Or.inl ⟨by rfl, ?_⟩) (by assumption) ?_
          rotate_left
          · (intro wS hSw; (try dsimp only at hSw); go_simp; (try with_reducible rfl))
          try simp only [Act.put, List.getElem_toArray, List.getElem_cons_succ, List.getElem_cons_zero, List.setIfInBounds_toArray, List.set_cons_zero, List.set_cons_succ]
          refine wpAnyH_ready (rs := [21]) (by kernel_rfl) (by simp) ?_
          refine AllReadyH.cons rfl (fun K hK => ?_) AllReadyH.nil
          · simp only [List.getElem_toArray, List.getElem_cons_succ, List.getElem_cons_zero]
            go_simp
            refine hK.out _ _ (TS.set4 (by assumption) (by have := World.block_lt_of_cell? _ _ hS8.1; dsimp only at this; omega) (by have := hBe.out; omega)) (fun hHeld => ?_)
            clear hK K
            try simp only [Act.put, List.getElem_toArray, List.getElem_cons_succ, List.getElem_cons_zero, List.setIfInBounds_toArray, List.set_cons_zero, List.set_cons_succ]
            refine wpAnyH_take (i := 22) (v := ?_) rfl (by kernel_rfl) (by kernel_rfl) (by kernel_rfl) (fun _ _ _ h => h) (Or.inl ⟨by rfl, ?_⟩) (by assumption) ?_
            rotate_left
            · (intro wS hSw; (try dsimp only at hSw); go_simp; (try with_reducible rfl))
            try simp only [Act.put, List.getElem_toArray, List.getElem_cons_succ, List.getElem_cons_zero, List.setIfInBounds_toArray, List.set_cons_zero, List.set_cons_succ]
            refine wpAnyH_done (by kernel_rfl) ?_ _
            have hF := FS.set c0 c1 c2 c3 hHeld
            clear hHeld
            (try clear c0 c1 c2 c3 fz)
            generalize World.setCell _ _ _ = wE at hF ⊢
            obtain ⟨⟨p0, p1, p2, p3, hbe⟩, e0, e1, e2, e3⟩ := hF
            go_wp2
            all_goals first | (go_ret; exact ⟨rfl, hbe.out⟩) | (exfalso; have hp := hpv.out; have hf := hpf.out; simp_all)
end Go.Proofs.YtcmbofoddfhnjaaDoor
