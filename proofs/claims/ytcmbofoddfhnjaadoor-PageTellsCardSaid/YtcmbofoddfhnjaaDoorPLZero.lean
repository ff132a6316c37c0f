/- The walk of the law PageZero. No condition but the table of spaces. -/
import Derived.Test.YtcmbofoddfhnjaaDoorPLaws1
import Derived.Test.YtcmbofoddfhnjaaDoorPPut
import Derived.Test.YtcmbofoddfhnjaaDoorFZer
import Derived.Deep.RegionHeld3
import Derived.Deep.DrawnRows
import Derived.Outline
import Derived.Handy
namespace Go.Proofs.YtcmbofoddfhnjaaDoor
open Go.RowKit
attribute [local go_sem] mk_size mk_append lit_append zs_length

theorem wpAnyH_moreZ {P : Program} {md : Region.Mode} {ops : Array Oper} {Q : Exit → Act → World → Prop} {S S' : World → Prop} (h : ∀ w, S' w → S w) : ∀ {fuel : Nat} {listed : Array Bool} {a : Act} {w : World}, wpAnyH P md ops Q S' fuel listed a w → wpAnyH P md ops Q S fuel listed a w
  | 0, _, _, _, hw => hw
  | _ + 1, _, _, _, hw => ⟨hw.1, fun i hi => wpOp_mono (fun _ _ h' => ⟨h _ h'.1, wpAnyH_moreZ h h'.2⟩) (hw.2 i hi)⟩
/-- One byte that was made a text. -/
theorem conv1 (x : UInt8) (w : World) (b : Nat) (h0 : w.cell? ⟨b, 0, none⟩ = some (.int .u8 x.toNat)) :
    (convert 33 9 (.slice (some ⟨b, 0, none⟩) 1 1)).run Tryd.prog w = .ok (.string (mk [x])) w :=
  run_convert_bytes_back w 33 9 5 ⟨b, 0, none⟩ 1 [x] Tryd.underlying33 Tryd.underlying5 Tryd.underlying9 fun j hj => by
    match j, hj with
    | 0, _ => rw [Addr.add_lit]; simpa using h0
/-- The text with the byte k set. -/
def turn (l : List UInt8) (k : Nat) (x : UInt8) : List UInt8 := l.take k ++ ([x] ++ l.drop (k + 1))
theorem turn_length {l : List UInt8} {k : Nat} (h : k < l.length) (x : UInt8) : (turn l k x).length = l.length := by
  simp [turn, List.length_take, List.length_drop]; omega
theorem wf_u8 {n : Int} (h : (Lit.int .u8 n).wf = true) : 0 ≤ n ∧ n ≤ 255 := by
  simp [Lit.wf] at h
  have e : IntKind.u8.min = 0 := by decide
  have e2 : IntKind.u8.max = 255 := by decide
  omega
theorem at_k (n : Int) (m : Nat) (hm : 0 < m) : ∃ k : Nat, k < m ∧ ((n.tmod m) + m).tmod m = k := by
  have h1 := Int.tmod_lt_of_pos n (show (0 : Int) < m by omega)
  have h2 : -(m : Int) < n.tmod m := by
    rcases Int.lt_or_le n 0 with h | h
    · have := Int.tmod_lt_of_pos (-n) (show (0 : Int) < m by omega)
      rw [Int.neg_tmod] at this; omega
    · have := Int.tmod_nonneg (m : Int) h; omega
  rw [Int.tmod_eq_emod_of_nonneg (by omega)]
  have h3 := Int.emod_nonneg (n.tmod m + m) (show (m : Int) ≠ 0 by omega)
  have h4 := Int.emod_lt_of_pos (n.tmod m + m) (show (0 : Int) < m by omega)
  exact ⟨((n.tmod m + m) % m).toNat, by omega, by omega⟩

/-- Nothing that was there is touched; and a byte that was made. -/
def RS (w0 w : World) : Prop := Hid (Below w0.heap.size w0 w)
def RS1 (w0 : World) (B : Nat) (v : Value) (w : World) : Prop := RS w0 w ∧ w.cell? ⟨B, 0, none⟩ = some v
section
variable {w0 w w' : World}
theorem RS.more (h : RS w0 w) (hb : Below w.heap.size w w') : RS w0 w' := Lib.hid (h.out.trans (hb.mono h.out.size))
theorem RS.drew (h : RS w0 w) : RS w0 w.drew := h.more (Below.refl _ _).drew
theorem RS.alloc (h : RS w0 w) (o : Obj) : RS w0 (w.alloc o) := h.more ((Below.refl _ _).alloc (Nat.le_refl _) _)
theorem RS.grow1 {v : Value} {t : TypeId} (h : RS w0 (w.alloc (.cells #[v] t))) : ∃ B, B = w.heap.size ∧ RS1 w0 B v (w.alloc (.cells #[v] t)) :=
  ⟨_, rfl, h, cell_of (heap_alloc_new w _) rfl⟩
theorem RS.grow1' {v : Value} {t : TypeId} (h : RS w0 (w.alloc (.cells #[v] t)).drew) : ∃ B, B = w.heap.size ∧ RS1 w0 B v (w.alloc (.cells #[v] t)).drew :=
  ⟨_, rfl, h, cell_of (heap_alloc_new w _) rfl⟩
theorem RS1.more {B : Nat} {v : Value} (h : RS1 w0 B v w) (hb : Below w.heap.size w w') : RS1 w0 B v w' := ⟨h.1.more hb, same_cell hb h.2⟩
theorem RS1.alloc {B : Nat} {v : Value} (h : RS1 w0 B v w) (o : Obj) : RS1 w0 B v (w.alloc o) := h.more ((Below.refl _ _).alloc (Nat.le_refl _) _)
theorem get_S {B : Nat} {v : Value} {b : List UInt8} {V : Value} (hT : Tab w0) (h : RS1 w0 B v w) (hd : pgV (pdec b) = V) (hl : b.length ≤ 1000) : Calls Tryd.prog 12 #[.string (mk b)] w fun e w' => e = .returned V ∧ RS1 w0 B v w' :=
  (get_any b w (hT.more h.1.out) (by omega)).mono fun _ _ ⟨he, hb⟩ => ⟨by rw [he, hd], h.more hb⟩
theorem get_S2 {B : Nat} {v : Value} {b : List UInt8} {V : Value} (hT : Tab w0) (h : RS1 w0 B v w) (hd : pgV (pdec b) = V) (hl : b.length ≤ 1000) : Calls Tryd.prog 12 #[.string (mk b)] w fun e w' => e = .returned V ∧ RS1 w0 B v w' ∧ Below w.heap.size w w' :=
  (get_any b w (hT.more h.1.out) (by omega)).mono fun _ _ ⟨he, hb⟩ => ⟨by rw [he, hd], h.more hb, hb⟩
theorem blkA {o1 o2 : Obj} (hb : Below ((w.alloc o1).alloc o2).heap.size ((w.alloc o1).alloc o2) w') : w'.heap[w.heap.size + 1]? = some o2 := by
  have h := heap_alloc_new (w.alloc o1) o2
  rw [show (w.alloc o1).heap.size = w.heap.size + 1 by simp] at h
  exact (hb.block _ (by simp)).trans h
theorem blkA' {o1 o2 : Obj} (hb : Below ((w.alloc o1).alloc o2).drew.heap.size ((w.alloc o1).alloc o2).drew w') : w'.heap[w.heap.size + 1]? = some o2 := by
  have h := heap_alloc_new (w.alloc o1) o2
  rw [show (w.alloc o1).heap.size = w.heap.size + 1 by simp] at h
  exact (hb.block _ (by simp)).trans h
theorem blkB {o1 o2 : Obj} (hb : Below ((w.alloc o1).alloc o2).heap.size ((w.alloc o1).alloc o2) w') : w'.heap[w.heap.size]? = some o1 :=
  (hb.block _ (by simp; omega)).trans ((Below.heap_alloc _ _ _ (by simp)).trans (heap_alloc_new w o1))
theorem blkB' {o1 o2 : Obj} (hb : Below ((w.alloc o1).alloc o2).drew.heap.size ((w.alloc o1).alloc o2).drew w') : w'.heap[w.heap.size]? = some o1 :=
  (hb.block _ (by simp; omega)).trans ((Below.heap_alloc _ _ _ (by simp)).trans (heap_alloc_new w o1))
theorem cells4 {C : Nat} {a b c d : Value} {t : TypeId} (h : w.heap[C]? = some (.cells #[a, b, c, d] t)) : w.cell? ⟨C, 0, none⟩ = some a ∧ w.cell? ⟨C, 1, none⟩ = some b ∧ w.cell? ⟨C, 2, none⟩ = some c ∧ w.cell? ⟨C, 3, none⟩ = some d ∧ ∀ i, w.frozen? ⟨C, i, none⟩ = false :=
  ⟨cell_of h rfl, cell_of h rfl, cell_of h rfl, cell_of h rfl, fun i => by simp [World.frozen?, h]⟩
theorem RS1.set {B C i : Nat} {v u : Value} (h : RS1 w0 B v w) (hC : w0.heap.size ≤ C) (hne : B ≠ C) : RS1 w0 B v (w.setCell ⟨C, i, none⟩ u) :=
  ⟨Lib.hid (h.1.out.setCell hC u), (World.cell?_of_block (w := w) (Below.heap_setCell w ⟨C, i, none⟩ u B hne)).trans h.2⟩
theorem RS1.set4 {B C : Nat} {v a b c d : Value} (h : RS1 w0 B v w) (hC : w0.heap.size ≤ C) (hne : B ≠ C) : RS1 w0 B v ((((w.setCell ⟨C, 0, none⟩ a).setCell ⟨C, 1, none⟩ b).setCell ⟨C, 2, none⟩ c).setCell ⟨C, 3, none⟩ d) :=
  (((h.set hC hne).set hC hne).set hC hne).set hC hne
end

theorem z_S {w0 w : World} {b : Nat} {body : List UInt8} (h : w.cell? ⟨b, 0, none⟩ = some (.int .i64 0) ∧ w.cell? ⟨b, 3, none⟩ = some (.string (mk body)) ∧ RS w0 w) : Calls Tryd.prog 15 #[.int .i64 240] w fun e w' => e = .returned (.string (mk (zs 240))) ∧ w'.cell? ⟨b, 0, none⟩ = some (.int .i64 0) ∧ w'.cell? ⟨b, 3, none⟩ = some (.string (mk body)) ∧ RS w0 w' :=
  (refZeros_any 240 w (by omega)).mono fun _ _ ⟨he, hb⟩ => ⟨he, same_cell hb h.1, same_cell hb h.2.1, h.2.2.more hb⟩
theorem zs_turn (k : Nat) (hk : k < 256) : (zs 256).take k ++ ([0] ++ (zs 256).drop (k + 1)) = zs 256 := by
  have e : ([0] : List UInt8) ++ (zs 256).drop (k + 1) = (zs 256).drop k := by
    rw [List.drop_eq_getElem_cons (i := k) (by rw [zs_length]; exact hk), show (zs 256)[k]'(by rw [zs_length]; exact hk) = 0 from List.getElem_replicate _]; rfl
  rw [e, List.take_append_drop]
theorem dec_turn (k : Nat) (hk : k < 256) (x : UInt8) (hx : x ≠ 0) : pdec ((zs 256).take k ++ ([x] ++ (zs 256).drop (k + 1))) = none := by
  have hg : ∀ j, j ≠ k → ((zs 256).take k ++ ([x] ++ (zs 256).drop (k + 1))).getD j 0 = 0 := by
    intro j hj
    simp only [List.getD_eq_getElem?_getD]
    rcases Nat.lt_or_ge j k with c | c
    · rw [List.getElem?_append_left (by rw [List.length_take, zs_length]; omega), List.getElem?_take_of_lt c]
      cases h : (zs 256)[j]? with
      | none => rfl
      | some y => exact (List.mem_replicate.1 (List.mem_of_getElem? h)).2
    · rw [List.getElem?_append_right (by rw [List.length_take, zs_length]; omega), List.length_take, zs_length, Nat.min_eq_left (by omega)]
      obtain ⟨i, rfl⟩ : ∃ i, j = k + (i + 1) := ⟨j - k - 1, by omega⟩
      rw [show k + (i + 1) - k = i + 1 by omega, List.singleton_append, List.getElem?_cons_succ, List.getElem?_drop]
      cases h : (zs 256)[k + 1 + i]? with
      | none => rfl
      | some y => exact (List.mem_replicate.1 (List.mem_of_getElem? h)).2
  cases h : pdec ((zs 256).take k ++ ([x] ++ (zs 256).drop (k + 1))) with
  | none => rfl
  | some q =>
    exfalso
    rcases (pdec_some h).2 with ⟨h1, _⟩ | ⟨_, _, h3⟩
    · have := congrArg (fun l => l[k]?) h1
      rw [List.getElem?_append_right (by rw [List.length_take, zs_length]; omega), List.length_take, zs_length, Nat.min_eq_left (by omega), Nat.sub_self] at this
      have e : (zs 256)[k]? = some x := this.symm
      exact hx (List.mem_replicate.1 (List.mem_of_getElem? e)).2
    · have h0 := congrArg (fun l => l.getD 0 0) h3
      have h1 := congrArg (fun l => l.getD 1 0) h3
      by_cases c : k = 0
      · rw [hg 1 (by omega)] at h1; exact absurd (show (71 : UInt8) = 0 from h1) (by decide)
      · rw [hg 0 (by omega)] at h0; exact absurd (show (80 : UInt8) = 0 from h0) (by decide)

set_option maxRecDepth 100000 in
set_option maxHeartbeats 1600000 in
theorem pageZero_walk (n x : Int) (w : World) (hT : Tab w) (w0 : (Lit.int .i64 n).wf = true) (w1 : (Lit.int .u8 x).wf = true) :
    Calls Tryd.prog 4 #[.int .i64 n, .int .u8 x] w fun e w' => e = .returned (.bool true) ∧ Below w.heap.size w w' := by
  obtain ⟨x1, x2⟩ := wf_u8 w1
  obtain ⟨xb, rfl⟩ : ∃ xb : UInt8, x = xb.toNat := ⟨UInt8.ofNat x.toNat, by rw [UInt8.toNat_ofNat', Nat.mod_eq_of_lt (by omega)]; omega⟩
  have hq1 := Int.lt_tmod_of_pos n (show (0 : Int) < 256 by omega)
  have hq2 := Int.tmod_lt_of_pos n (show (0 : Int) < 256 by omega)
  obtain ⟨q, hq⟩ : ∃ q, n.tmod 256 = q := ⟨_, rfl⟩
  rw [hq] at hq1 hq2
  obtain ⟨k, hk⟩ : ∃ k : Nat, (q + 256) % 256 = (k : Int) := ⟨((q + 256) % 256).toNat, by rw [Int.toNat_of_nonneg (Int.emod_nonneg _ (by omega))]⟩
  have hk2 : (q + 256).tmod 256 = (k : Int) := by rw [Int.tmod_eq_emod_of_nonneg (by omega), hk]
  have hk3 : k < 256 := by have := Int.emod_lt_of_pos (q + 256) (show (0 : Int) < 256 by omega); omega
  have hs1 := sl_to (zs 256) k k rfl (by rw [zs_length]; omega)
  have hs2 := sl_from (zs 256) (k + 1) ((k : Int) + 1) (by push_cast; rfl) (by rw [zs_length]; omega)
  have hwk : IntKind.i64.wrap ((k : Int) + 1) = (k : Int) + 1 := by rw [IntKind.wrap_i64]; omega
  have hlen : ((zs 256).take k ++ ([xb] ++ (zs 256).drop (k + 1))).length ≤ 1000 := by
    simp only [List.length_append, List.length_take, List.length_drop, zs_length, List.length_singleton]; omega
  obtain ⟨r, hdec⟩ : ∃ r, pdec ((zs 256).take k ++ ([xb] ++ (zs 256).drop (k + 1))) = r := ⟨_, rfl⟩
  have hr : xb = 0 ∧ r = some ⟨0, 0, 0, zs 240⟩ ∨ xb ≠ 0 ∧ r = none := by
    by_cases c : xb = 0
    · subst c; rw [zs_turn k hk3, pdec_zs] at hdec; exact .inl ⟨rfl, hdec.symm⟩
    · rw [dec_turn k hk3 xb c] at hdec; exact .inr ⟨c, hdec.symm⟩
  obtain ⟨pa, pb, pc, ps, pf, hpg, hpf⟩ : ∃ pa pb pc ps pf, pgV (pdec ((zs 256).take k ++ ([xb] ++ (zs 256).drop (k + 1)))) = .tuple #[.agg #[.int .i64 pa, .int .i64 pb, .int .i64 pc, .string ps], .bool pf] ∧ (pf == ((xb.toNat : Int) == 0)) = true := by
    rcases hr with ⟨rfl, rfl⟩ | ⟨h0, rfl⟩
    · rw [hdec]; exact ⟨_, _, _, _, _, rfl, rfl⟩
    · rw [hdec]
      refine ⟨_, _, _, _, _, rfl, ?_⟩
      have : ((xb.toNat : Int) == 0) = false := by
        rw [beq_eq_false_iff_ne]
        intro h
        exact h0 (UInt8.toNat_inj.1 (by simpa using h))
      rw [this]; rfl
  replace hpg := Lib.hid hpg
  clear hr hdec
  go_enter Tryd.func4, Tryd.ntmps4
  go_wp2_with fail
  refine (alive_true _ hT).mono ?_
  rintro e w2 ⟨rfl, h2⟩
  have hT2 := hT.more h2
  go_wp2_with fail
  refine (refZeros_any 256 _ (by omega)).mono ?_
  rintro e w3 ⟨rfl, h3⟩
  have hT3 := hT2.more h3
  have h3' := Lib.hid (h2.trans (h3.mono h2.size))
  rw [show List.replicate 256 (0 : UInt8) = zs 256 from rfl]
  clear h2 h3 hT2
  go_wp2_with fail
  refine (get_any _ _ hT3 (by rw [zs_length]; omega)).mono ?_
  rintro e w4 ⟨rfl, h4⟩
  have hT4 := hT3.more h4
  have h4' := Lib.hid (h3'.out.trans (h4.mono h3'.out.size))
  rw [pdec_zs, pgV]
  clear h3' h4 hT3
  go_wp2
  go_region_held3 (fun w' => w'.cell? ⟨w4.heap.size, 0, none⟩ = some (.int .i64 0) ∧ w'.cell? ⟨w4.heap.size, 3, none⟩ = some (.string (mk (zs 240))) ∧ RS w w') (first | exact ⟨cell_of (heap_alloc_new w4 _) rfl, cell_of (heap_alloc_new w4 _) rfl, RS.drew (RS.alloc h4' _)⟩ | assumption) (first | (go_at_call 15; refine (z_S (by assumption)).mono ?_; rintro e w8 ⟨rfl, hq⟩))
  obtain ⟨_, _, hS8⟩ := hq
  clear h4' hT4
  go_wp2
  refine wp_region_held_drew (S := RS w) (by kernel_rfl) hS8.drew (fun hHeld => ?_)
  refine wpAnyH_take (i := 0) (v := ?_) rfl (by kernel_rfl) (by kernel_rfl) (by kernel_rfl) (fun _ _ _ h => h) (Or.inl ⟨by rfl, ?_⟩) (by assumption) ?_
  rotate_left
  · (intro wS hSw; (try dsimp only at hSw); go_simp; (try with_reducible rfl))
  try simp only [Act.put, List.getElem_toArray, List.getElem_cons_zero, List.setIfInBounds_toArray, List.set_cons_zero, List.set_cons_succ]
  refine wpAnyH_take (i := 1) (v := ?_) rfl (by kernel_rfl) (by kernel_rfl) (by kernel_rfl) (fun _ _ _ h => h) (Or.inl ⟨by rfl, ?_⟩) (by assumption) ?_
  rotate_left
  · (intro wS hSw; (try dsimp only at hSw); go_simp; (try with_reducible rfl))
  try simp only [Act.put, List.getElem_toArray, List.getElem_cons_succ, List.getElem_cons_zero, List.setIfInBounds_toArray, List.set_cons_zero, List.set_cons_succ]
  refine wpAnyH_take (i := 2) (v := ?_) rfl (by kernel_rfl) (by kernel_rfl) (by kernel_rfl) (fun _ _ _ h => h) (Or.inl ⟨by rfl, ?_⟩) (by assumption) ?_
  rotate_left
  · (intro wS hSw; (try dsimp only at hSw); go_simp; (try with_reducible rfl))
  try simp only [Act.put, List.getElem_toArray, List.getElem_cons_succ, List.getElem_cons_zero, List.setIfInBounds_toArray, List.set_cons_zero, List.set_cons_succ]
  refine wpAnyH_take (i := 3) (v := ?_) rfl (by kernel_rfl) (by kernel_rfl) (by kernel_rfl) (fun _ _ _ h => h) (Or.inl ⟨by rfl, ?_⟩) (by assumption) ?_
  rotate_left
  · (intro wS hSw; (try dsimp only at hSw); go_simp; (try with_reducible rfl))
  try simp only [Act.put, List.getElem_toArray, List.getElem_cons_succ, List.getElem_cons_zero, List.setIfInBounds_toArray, List.set_cons_zero, List.set_cons_succ]
  refine wpAnyH_take (i := 7) (v := ?_) rfl (by kernel_rfl) (by kernel_rfl) (by kernel_rfl) (fun _ _ _ h => h) (Or.inl ⟨by rfl, ?_⟩) (by assumption) ?_
  rotate_left
  · (intro wS hSw; (try dsimp only at hSw); go_simp; (try with_reducible rfl))
  try simp only [Act.put, List.getElem_toArray, List.getElem_cons_succ, List.getElem_cons_zero, List.setIfInBounds_toArray, List.set_cons_zero, List.set_cons_succ]
  refine wpAnyH_take (i := 8) (v := ?_) rfl (by kernel_rfl) (by kernel_rfl) (by kernel_rfl) (fun _ _ _ h => h) (Or.inl ⟨by rfl, ?_⟩) (by assumption) ?_
  rotate_left
  · (intro wS hSw; (try dsimp only at hSw); go_simp; (try with_reducible rfl))
  try simp only [Act.put, List.getElem_toArray, List.getElem_cons_succ, List.getElem_cons_zero, List.setIfInBounds_toArray, List.set_cons_zero, List.set_cons_succ]
  refine wpAnyH_take (i := 9) (v := ?_) rfl (by kernel_rfl) (by kernel_rfl) (by kernel_rfl) (fun _ _ _ h => h) (Or.inl ⟨by rfl, ?_⟩) (by assumption) ?_
  rotate_left
  · (intro wS hSw; (try dsimp only at hSw); go_simp; (try with_reducible rfl))
  try simp only [Act.put, List.getElem_toArray, List.getElem_cons_succ, List.getElem_cons_zero, List.setIfInBounds_toArray, List.set_cons_zero, List.set_cons_succ]
  refine wpAnyH_take (i := 10) (v := ?_) rfl (by kernel_rfl) (by kernel_rfl) (by kernel_rfl) (fun _ _ _ h => h) (Or.inl ⟨by rfl, ?_⟩) (by assumption) ?_
  rotate_left
  · (intro wS hSw; (try dsimp only at hSw); go_simp; (try with_reducible rfl))
  try simp only [Act.put, List.getElem_toArray, List.getElem_cons_succ, List.getElem_cons_zero, List.setIfInBounds_toArray, List.set_cons_zero, List.set_cons_succ]
  refine wpAnyH_ready (rs := [4, 16]) (by kernel_rfl) (by simp) ?_
  refine AllReadyH.cons rfl (fun K hK => ?_) (AllReadyH.cons rfl (fun K hK => ?_) AllReadyH.nil)
  · simp only [List.getElem_toArray, List.getElem_cons_succ, List.getElem_cons_zero]
    go_simp
    refine hK.out _ _ (RS.alloc (by assumption) _) (fun hHeld => ?_)
    clear hK K
    try simp only [Act.put, List.getElem_toArray, List.getElem_cons_succ, List.getElem_cons_zero, List.setIfInBounds_toArray, List.set_cons_zero, List.set_cons_succ]
    obtain ⟨B, hBe, hG⟩ := (by first | exact RS.grow1 hHeld | exact RS.grow1' hHeld)
    (try simp at hBe)
    replace hBe := Lib.hid hBe
    refine wpAnyH_moreZ (S' := RS1 w B (.int .u8 xb.toNat)) (fun _ h => h.1) ?_
    clear hHeld
    have hHeld := hG
    refine wpAnyH_take (i := 5) (v := ?_) rfl (by kernel_rfl) (by kernel_rfl) (by kernel_rfl) (fun _ _ _ h => h) (Or.inl ⟨by rfl, ?_⟩) (by assumption) ?_
    rotate_left
    · (intro wS hSw; (try dsimp only at hSw); have hcv := conv1 xb _ _ hSw.2; rw [← hBe.out]; go_simp; (try with_reducible rfl))
    try simp only [Act.put, List.getElem_toArray, List.getElem_cons_succ, List.getElem_cons_zero, List.setIfInBounds_toArray, List.set_cons_zero, List.set_cons_succ]
    refine wpAnyH_take (i := 6) (v := ?_) rfl (by kernel_rfl) (by kernel_rfl) (by kernel_rfl) (fun _ _ _ h => h) (Or.inl ⟨by rfl, ?_⟩) (by assumption) ?_
    rotate_left
    · (intro wS hSw; (try dsimp only at hSw); go_simp; rw [if_neg (by omega)]; (try with_reducible rfl))
    try simp only [Act.put, List.getElem_toArray, List.getElem_cons_succ, List.getElem_cons_zero, List.setIfInBounds_toArray, List.set_cons_zero, List.set_cons_succ]
    refine wpAnyH_take (i := 11) (v := ?_) rfl (by kernel_rfl) (by kernel_rfl) (by kernel_rfl) (fun _ _ _ h => h) (Or.inl ⟨by rfl, ?_⟩) (by assumption) ?_
    rotate_left
    · (intro wS hSw; (try dsimp only at hSw); go_simp; rw [if_neg (by omega)]; (try with_reducible rfl))
    try simp only [Act.put, List.getElem_toArray, List.getElem_cons_succ, List.getElem_cons_zero, List.setIfInBounds_toArray, List.set_cons_zero, List.set_cons_succ]
    refine wpAnyH_ready (rs := [12, 16]) (by kernel_rfl) (by simp) ?_
    refine AllReadyH.cons rfl (fun K hK => ?_) (AllReadyH.cons rfl (fun K hK => ?_) AllReadyH.nil)
    · simp only [List.getElem_toArray, List.getElem_cons_succ, List.getElem_cons_zero]
      go_simp
      (go_at_call 12; refine (get_S hT (by assumption) hpg.out hlen).mono ?_; rintro en wq ⟨rfl, hq⟩)
      go_wp2_with fail
      refine hK.out _ _ (by assumption) (fun hHeld => ?_)
      clear hK K
      try simp only [Act.put, List.getElem_toArray, List.getElem_cons_succ, List.getElem_cons_zero, List.setIfInBounds_toArray, List.set_cons_zero, List.set_cons_succ]
      refine wpAnyH_take (i := 13) (v := ?_) rfl (by kernel_rfl) (by kernel_rfl) (by kernel_rfl) (fun _ _ _ h => h) (Or.inl ⟨by rfl, ?_⟩) (by assumption) ?_
      rotate_left
      · (intro wS hSw; (try dsimp only at hSw); go_simp; (try with_reducible rfl))
      try simp only [Act.put, List.getElem_toArray, List.getElem_cons_succ, List.getElem_cons_zero, List.setIfInBounds_toArray, List.set_cons_zero, List.set_cons_succ]
      refine wpAnyH_take (i := 14) (v := ?_) rfl (by kernel_rfl) (by kernel_rfl) (by kernel_rfl) (fun _ _ _ h => h) (Or.inl ⟨by rfl, ?_⟩) (by assumption) ?_
      rotate_left
      · (intro wS hSw; (try dsimp only at hSw); go_simp; (try with_reducible rfl))
      try simp only [Act.put, List.getElem_toArray, List.getElem_cons_succ, List.getElem_cons_zero, List.setIfInBounds_toArray, List.set_cons_zero, List.set_cons_succ]
      refine wpAnyH_take (i := 15) (v := ?_) rfl (by kernel_rfl) (by kernel_rfl) (by kernel_rfl) (fun _ _ _ h => h) (Or.inl ⟨by rfl, ?_⟩) (by assumption) ?_
      rotate_left
      · (intro wS hSw; (try dsimp only at hSw); go_simp; (try with_reducible rfl))
      try simp only [Act.put, List.getElem_toArray, List.getElem_cons_succ, List.getElem_cons_zero, List.setIfInBounds_toArray, List.set_cons_zero, List.set_cons_succ]
      refine wpAnyH_ready (rs := [16]) (by kernel_rfl) (by simp) ?_
      refine AllReadyH.cons rfl (fun K hK => ?_) AllReadyH.nil
      · simp only [List.getElem_toArray, List.getElem_cons_succ, List.getElem_cons_zero]
        go_simp
        refine hK.out _ _ (RS1.alloc (by assumption) _) (fun hHeld => ?_)
        clear hK K
        try simp only [Act.put, List.getElem_toArray, List.getElem_cons_succ, List.getElem_cons_zero, List.setIfInBounds_toArray, List.set_cons_zero, List.set_cons_succ]
        refine wpAnyH_ready (rs := [17]) (by kernel_rfl) (by simp) ?_
        refine AllReadyH.cons rfl (fun K hK => ?_) AllReadyH.nil
        · simp only [List.getElem_toArray, List.getElem_cons_succ, List.getElem_cons_zero]
          go_simp
          refine hK.out _ _ (RS1.alloc (by assumption) _) (fun hHeld => ?_)
          clear hK K
          try simp only [Act.put, List.getElem_toArray, List.getElem_cons_succ, List.getElem_cons_zero, List.setIfInBounds_toArray, List.set_cons_zero, List.set_cons_succ]
          refine wpAnyH_take (i := 18) (v := ?_) rfl (by kernel_rfl) (by kernel_rfl) (by kernel_rfl) (fun _ _ _ h => h) (Or.inl ⟨by rfl, ?_⟩) (by assumption) ?_
          rotate_left
          · (intro wS hSw; (try dsimp only at hSw); go_simp; (try with_reducible rfl))
          try simp only [Act.put, List.getElem_toArray, List.getElem_cons_succ, List.getElem_cons_zero, List.setIfInBounds_toArray, List.set_cons_zero, List.set_cons_succ]
          refine wpAnyH_done (by kernel_rfl) ?_ _
          go_wp2
          go_ret
          exact ⟨by first | rfl | rw [hpf], hHeld.1.out⟩
    · simp only [List.getElem_toArray, List.getElem_cons_succ, List.getElem_cons_zero]
      go_simp
      refine hK.out _ _ (RS1.alloc (by assumption) _) (fun hHeld => ?_)
      clear hK K
      try simp only [Act.put, List.getElem_toArray, List.getElem_cons_succ, List.getElem_cons_zero, List.setIfInBounds_toArray, List.set_cons_zero, List.set_cons_succ]
      refine wpAnyH_ready (rs := [12]) (by kernel_rfl) (by simp) ?_
      refine AllReadyH.cons rfl (fun K hK => ?_) AllReadyH.nil
      · simp only [List.getElem_toArray, List.getElem_cons_succ, List.getElem_cons_zero]
        go_simp
        (go_at_call 12; refine (get_S2 hT (by assumption) hpg.out hlen).mono ?_; rintro en wq ⟨rfl, hq, hb⟩)
        go_wp2_with fail
        refine hK.out _ _ (by assumption) (fun hHeld => ?_)
        clear hK K
        try simp only [Act.put, List.getElem_toArray, List.getElem_cons_succ, List.getElem_cons_zero, List.setIfInBounds_toArray, List.set_cons_zero, List.set_cons_succ]
        have hblk := (by first | exact blkA hb | exact blkA' hb)
        obtain ⟨c0, c1, c2, c3, fz⟩ := cells4 hblk
        clear hblk hb
        refine wpAnyH_take (i := 13) (v := ?_) rfl (by kernel_rfl) (by kernel_rfl) (by kernel_rfl) (fun _ _ _ h => h) (Or.inl ⟨by rfl, ?_⟩) (by assumption) ?_
        rotate_left
        · (intro wS hSw; (try dsimp only at hSw); go_simp; (try with_reducible rfl))
        try simp only [Act.put, List.getElem_toArray, List.getElem_cons_succ, List.getElem_cons_zero, List.setIfInBounds_toArray, List.set_cons_zero, List.set_cons_succ]
        refine wpAnyH_take (i := 14) (v := ?_) rfl (by kernel_rfl) (by kernel_rfl) (by kernel_rfl) (fun _ _ _ h => h) (Or.inl ⟨by rfl, ?_⟩) (by assumption) ?_
        rotate_left
        · (intro wS hSw; (try dsimp only at hSw); go_simp; (try with_reducible rfl))
        try simp only [Act.put, List.getElem_toArray, List.getElem_cons_succ, List.getElem_cons_zero, List.setIfInBounds_toArray, List.set_cons_zero, List.set_cons_succ]
        refine wpAnyH_take (i := 15) (v := ?_) rfl (by kernel_rfl) (by kernel_rfl) (by kernel_rfl) (fun _ _ _ h => h) (Or.inl ⟨by rfl, ?_⟩) (by assumption) ?_
        rotate_left
        · (intro wS hSw; (try dsimp only at hSw); go_simp; (try with_reducible rfl))
        try simp only [Act.put, List.getElem_toArray, List.getElem_cons_succ, List.getElem_cons_zero, List.setIfInBounds_toArray, List.set_cons_zero, List.set_cons_succ]
        refine wpAnyH_ready (rs := [17]) (by kernel_rfl) (by simp) ?_
        refine AllReadyH.cons rfl (fun K hK => ?_) AllReadyH.nil
        · simp only [List.getElem_toArray, List.getElem_cons_succ, List.getElem_cons_zero]
          go_simp
          refine hK.out _ _ (RS1.set4 (by assumption) (by have := hS8.out.size; omega) (by have := hBe.out; omega)) (fun hHeld => ?_)
          clear hK K
          try simp only [Act.put, List.getElem_toArray, List.getElem_cons_succ, List.getElem_cons_zero, List.setIfInBounds_toArray, List.set_cons_zero, List.set_cons_succ]
          refine wpAnyH_take (i := 18) (v := ?_) rfl (by kernel_rfl) (by kernel_rfl) (by kernel_rfl) (fun _ _ _ h => h) (Or.inl ⟨by rfl, ?_⟩) (by assumption) ?_
          rotate_left
          · (intro wS hSw; (try dsimp only at hSw); go_simp; (try with_reducible rfl))
          try simp only [Act.put, List.getElem_toArray, List.getElem_cons_succ, List.getElem_cons_zero, List.setIfInBounds_toArray, List.set_cons_zero, List.set_cons_succ]
          refine wpAnyH_done (by kernel_rfl) ?_ _
          go_wp2
          go_ret
          exact ⟨by first | rfl | rw [hpf], hHeld.1.out⟩
  · simp only [List.getElem_toArray, List.getElem_cons_succ, List.getElem_cons_zero]
    go_simp
    refine hK.out _ _ (RS.alloc (by assumption) _) (fun hHeld => ?_)
    clear hK K
    try simp only [Act.put, List.getElem_toArray, List.getElem_cons_succ, List.getElem_cons_zero, List.setIfInBounds_toArray, List.set_cons_zero, List.set_cons_succ]
    refine wpAnyH_ready (rs := [4]) (by kernel_rfl) (by simp) ?_
    refine AllReadyH.cons rfl (fun K hK => ?_) AllReadyH.nil
    · simp only [List.getElem_toArray, List.getElem_cons_succ, List.getElem_cons_zero]
      go_simp
      refine hK.out _ _ (RS.alloc (by assumption) _) (fun hHeld => ?_)
      clear hK K
      try simp only [Act.put, List.getElem_toArray, List.getElem_cons_succ, List.getElem_cons_zero, List.setIfInBounds_toArray, List.set_cons_zero, List.set_cons_succ]
      obtain ⟨B, hBe, hG⟩ := (by first | exact RS.grow1 hHeld | exact RS.grow1' hHeld)
      (try simp at hBe)
      replace hBe := Lib.hid hBe
      refine wpAnyH_moreZ (S' := RS1 w B (.int .u8 xb.toNat)) (fun _ h => h.1) ?_
      clear hHeld
      have hHeld := hG
      refine wpAnyH_take (i := 5) (v := ?_) rfl (by kernel_rfl) (by kernel_rfl) (by kernel_rfl) (fun _ _ _ h => h) (Or.inl ⟨by rfl, ?_⟩) (by assumption) ?_
      rotate_left
      · (intro wS hSw; (try dsimp only at hSw); have hcv := conv1 xb _ _ hSw.2; rw [← hBe.out]; go_simp; (try with_reducible rfl))
      try simp only [Act.put, List.getElem_toArray, List.getElem_cons_succ, List.getElem_cons_zero, List.setIfInBounds_toArray, List.set_cons_zero, List.set_cons_succ]
      refine wpAnyH_take (i := 6) (v := ?_) rfl (by kernel_rfl) (by kernel_rfl) (by kernel_rfl) (fun _ _ _ h => h) (Or.inl ⟨by rfl, ?_⟩) (by assumption) ?_
      rotate_left
      · (intro wS hSw; (try dsimp only at hSw); go_simp; rw [if_neg (by omega)]; (try with_reducible rfl))
      try simp only [Act.put, List.getElem_toArray, List.getElem_cons_succ, List.getElem_cons_zero, List.setIfInBounds_toArray, List.set_cons_zero, List.set_cons_succ]
      refine wpAnyH_take (i := 11) (v := ?_) rfl (by kernel_rfl) (by kernel_rfl) (by kernel_rfl) (fun _ _ _ h => h) (Or.inl ⟨by rfl, ?_⟩) (by assumption) ?_
      rotate_left
      · (intro wS hSw; (try dsimp only at hSw); go_simp; rw [if_neg (by omega)]; (try with_reducible rfl))
      try simp only [Act.put, List.getElem_toArray, List.getElem_cons_succ, List.getElem_cons_zero, List.setIfInBounds_toArray, List.set_cons_zero, List.set_cons_succ]
      refine wpAnyH_ready (rs := [12]) (by kernel_rfl) (by simp) ?_
      refine AllReadyH.cons rfl (fun K hK => ?_) AllReadyH.nil
      · simp only [List.getElem_toArray, List.getElem_cons_succ, List.getElem_cons_zero]
        go_simp
        (go_at_call 12; refine (get_S2 hT (by assumption) hpg.out hlen).mono ?_; rintro en wq ⟨rfl, hq, hb⟩)
        go_wp2_with fail
        refine hK.out _ _ (by assumption) (fun hHeld => ?_)
        clear hK K
        try simp only [Act.put, List.getElem_toArray, List.getElem_cons_succ, List.getElem_cons_zero, List.setIfInBounds_toArray, List.set_cons_zero, List.set_cons_succ]
        have hblk := (by first | exact blkB hb | exact blkB' hb)
        obtain ⟨c0, c1, c2, c3, fz⟩ := cells4 hblk
        clear hblk hb
        refine wpAnyH_take (i := 13) (v := ?_) rfl (by kernel_rfl) (by kernel_rfl) (by kernel_rfl) (fun _ _ _ h => h) (Or.inl ⟨by rfl, ?_⟩) (by assumption) ?_
        rotate_left
        · (intro wS hSw; (try dsimp only at hSw); go_simp; (try with_reducible rfl))
        try simp only [Act.put, List.getElem_toArray, List.getElem_cons_succ, List.getElem_cons_zero, List.setIfInBounds_toArray, List.set_cons_zero, List.set_cons_succ]
        refine wpAnyH_take (i := 14) (v := ?_) rfl (by kernel_rfl) (by kernel_rfl) (by kernel_rfl) (fun _ _ _ h => h) (Or.inl ⟨by rfl, ?_⟩) (by assumption) ?_
        rotate_left
        · (intro wS hSw; (try dsimp only at hSw); go_simp; (try with_reducible rfl))
        try simp only [Act.put, List.getElem_toArray, List.getElem_cons_succ, List.getElem_cons_zero, List.setIfInBounds_toArray, List.set_cons_zero, List.set_cons_succ]
        refine wpAnyH_take (i := 15) (v := ?_) rfl (by kernel_rfl) (by kernel_rfl) (by kernel_rfl) (fun _ _ _ h => h) (Or.inl ⟨by rfl, ?_⟩) (by assumption) ?_
        rotate_left
        · (intro wS hSw; (try dsimp only at hSw); go_simp; (try with_reducible rfl))
        try simp only [Act.put, List.getElem_toArray, List.getElem_cons_succ, List.getElem_cons_zero, List.setIfInBounds_toArray, List.set_cons_zero, List.set_cons_succ]
        refine wpAnyH_ready (rs := [17]) (by kernel_rfl) (by simp) ?_
        refine AllReadyH.cons rfl (fun K hK => ?_) AllReadyH.nil
        · simp only [List.getElem_toArray, List.getElem_cons_succ, List.getElem_cons_zero]
          go_simp
          refine hK.out _ _ (RS1.set4 (by assumption) (by have := hS8.out.size; omega) (by have := hBe.out; omega)) (fun hHeld => ?_)
          clear hK K
          try simp only [Act.put, List.getElem_toArray, List.getElem_cons_succ, List.getElem_cons_zero, List.setIfInBounds_toArray, List.set_cons_zero, List.set_cons_succ]
          refine wpAnyH_take (i := 18) (v := ?_) rfl (by kernel_rfl) (by kernel_rfl) (by kernel_rfl) (fun _ _ _ h => h) (Or.inl ⟨by rfl, ?_⟩) (by assumption) ?_
          rotate_left
          · (intro wS hSw; (try dsimp only at hSw); go_simp; (try with_reducible rfl))
          try simp only [Act.put, List.getElem_toArray, List.getElem_cons_succ, List.getElem_cons_zero, List.setIfInBounds_toArray, List.set_cons_zero, List.set_cons_succ]
          refine wpAnyH_done (by kernel_rfl) ?_ _
          go_wp2
          go_ret
          exact ⟨by first | rfl | rw [hpf], hHeld.1.out⟩
end Go.Proofs.YtcmbofoddfhnjaaDoor
