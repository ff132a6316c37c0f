/- The walk of the law RecordMany. No condition but the table of spaces. -/
import Derived.Test.YtikdjbcfckjccaaDoorRecM
import Derived.Test.YtikdjbcfckjccaaDoorRecT
namespace Go.Proofs.YtikdjbcfckjccaaDoor
open Go.RowKit
attribute [local go_sem] mk_size
theorem four {w : World} {o1 o2 o3 o4 : Obj} : ((((w.alloc o1).alloc o2).alloc o3).alloc o4).heap[w.heap.size]? = some o1 ∧ ((((w.alloc o1).alloc o2).alloc o3).alloc o4).heap[w.heap.size + 1]? = some o2 ∧ ((((w.alloc o1).alloc o2).alloc o3).alloc o4).heap[w.heap.size + 1 + 1]? = some o3 ∧ ((((w.alloc o1).alloc o2).alloc o3).alloc o4).heap[w.heap.size + 1 + 1 + 1]? = some o4 := by
  have h1 := heap_alloc_new w o1
  have h2 := heap_alloc_new (w.alloc o1) o2
  have h3 := heap_alloc_new ((w.alloc o1).alloc o2) o3
  have h4 := heap_alloc_new (((w.alloc o1).alloc o2).alloc o3) o4
  simp only [World.size_alloc] at h2 h3 h4
  exact ⟨((((Chg.refl (fun _ => False) _).alloc o2).alloc o3).alloc o4).heap h1 id, (((Chg.refl (fun _ => False) _).alloc o3).alloc o4).heap h2 id, ((Chg.refl (fun _ => False) _).alloc o4).heap h3 id, h4⟩
theorem four_below {w0 w : World} {o1 o2 o3 o4 : Obj} (h : Below w0.heap.size w0 w) : Below w0.heap.size w0 ((((w.alloc o1).alloc o2).alloc o3).alloc o4) :=
  (((h.alloc h.size _).alloc (by have := h.size; simp; omega) _).alloc (by have := h.size; simp; omega) _).alloc (by have := h.size; simp; omega) _
/-- The record in its variable, its lists made. -/
def MAt (w0 w : World) (X p q s : Nat) (a c d : Nat) (cs : Array Value) : Prop :=
  w.heap[X]? = some (.cells cs 29 (0, 0)) ∧ w.heap[p]? = some (.cells (cellsI a) 3 (0, 0)) ∧ w.heap[q]? = some (.cells (cellsT c) 41 (0, 0)) ∧ w.heap[s]? = some (.cells (cellsD d) 55 (0, 0)) ∧ w0.heap.size ≤ X ∧ p ≠ X ∧ q ≠ X ∧ s ≠ X ∧ Below w0.heap.size w0 w
/-- In the loop: the record's patches so far. -/
structure ML (w0 wc w : World) (X p q s a c d : Nat) (vt : Value) (k : Nat) : Prop where
  x : w.heap[X]? = some (.cells #[.int .i64 7, .int .i64 0, .int .i64 0, .int .i64 0, .string ⟨#[]⟩, .bool false, .string ⟨#[]⟩, .string ⟨#[]⟩, .int .i64 0, .int .i64 0, .slice (some ⟨p, 0, none⟩) a a, vt, .slice (some ⟨q, 0, none⟩) c c, .slice (some ⟨s, 0, none⟩) d d] 29 (0, 0))
  i : w.heap[p]? = some (.cells (cellsI a) 3 (0, 0))
  t : w.heap[q]? = some (.cells (cellsT c) 41 (0, 0))
  d : w.heap[s]? = some (.cells (cellsD d) 55 (0, 0))
  row : w.ownsRow wc.heap.size 39 3 vt k (patcells (patN k))
  bel : Below w0.heap.size w0 w
  sz : wc.heap.size ≤ w.heap.size
theorem ML.step {w0 wc w w' : World} {X p q s a c d k : Nat} {vt vt' : Value} (h : ML w0 wc w X p q s a c d vt k) (hX : w0.heap.size ≤ X) (hl : X < wc.heap.size ∧ p < wc.heap.size ∧ q < wc.heap.size ∧ s < wc.heap.size) (hn : p ≠ X ∧ q ≠ X ∧ s ≠ X) (hw : w0.heap.size ≤ wc.heap.size)
    (hc : Chg (fun j => vt.ownBlock = some j) w w') (hr : w'.ownsRow wc.heap.size 39 3 vt' (k + 1) (patcells (patN (k + 1)))) : w'.heap[X]? = some (.cells #[.int .i64 7, .int .i64 0, .int .i64 0, .int .i64 0, .string ⟨#[]⟩, .bool false, .string ⟨#[]⟩, .string ⟨#[]⟩, .int .i64 0, .int .i64 0, .slice (some ⟨p, 0, none⟩) a a, vt, .slice (some ⟨q, 0, none⟩) c c, .slice (some ⟨s, 0, none⟩) d d] 29 (0, 0)) ∧ ML w0 wc (w'.setCell ⟨X, 11, none⟩ vt') X p q s a c d vt' (k + 1) := by
  have hb : ∀ j, vt.ownBlock = some j → wc.heap.size ≤ j := fun j e => (h.row.lt j e).1
  have hx := hc.heap h.x (fun e => by have := hb _ e; omega)
  have c2 : Chg (fun j => j = X) w' (w'.setCell ⟨X, 11, none⟩ vt') := (Chg.refl (fun j => j = X) w').setCell (a := ⟨X, 11, none⟩) (fun _ => rfl) vt'
  refine ⟨hx, heap_setCell hx vt', c2.heap (hc.heap h.i (fun e => by have := hb _ e; omega)) hn.1, c2.heap (hc.heap h.t (fun e => by have := hb _ e; omega)) hn.2.1, c2.heap (hc.heap h.d (fun e => by have := hb _ e; omega)) hn.2.2, c2.row hr (fun j hj e => by have := (hr.lt j hj).1; omega), ?_, ?_⟩
  · exact (h.bel.trans (hc.below (fun j _ e => by have := hb j e; omega) h.bel.size)).trans (c2.below (fun j _ e => by omega) (Nat.le_trans h.bel.size hc.size))
  · exact Nat.le_trans h.sz (Nat.le_trans hc.size c2.size)
theorem many_rel {w0 w : World} {X p q s a c d : Nat} {xp : Value} (hx : xp = .pointer (some ⟨X, 0, none⟩)) (h1 : w.heap[X]? = some (.cells #[.int .i64 7, .int .i64 0, .int .i64 0, .int .i64 0, .string ⟨#[]⟩, .bool false, .string ⟨#[]⟩, .string ⟨#[]⟩, .int .i64 0, .int .i64 0, .slice (some ⟨p, 0, none⟩) a a, .slice none 0 0, .slice (some ⟨q, 0, none⟩) c c, .slice (some ⟨s, 0, none⟩) d d] 29 (0, 0)))
    (h2 : w.heap[p]? = some (.cells (cellsI a) 3 (0, 0))) (h3 : w.heap[q]? = some (.cells (cellsT c) 41 (0, 0))) (h4 : w.heap[s]? = some (.cells (cellsD d) 55 (0, 0))) (h5 : w0.heap.size ≤ X) (h6 : p ≠ X) (h7 : q ≠ X) (h8 : s ≠ X) (h9 : Below w0.heap.size w0 w) :
    ∃ X p q s : Nat, xp = .pointer (some ⟨X, 0, none⟩) ∧ Aside (MAt w0 w X p q s a c d #[.int .i64 7, .int .i64 0, .int .i64 0, .int .i64 0, .string ⟨#[]⟩, .bool false, .string ⟨#[]⟩, .string ⟨#[]⟩, .int .i64 0, .int .i64 0, .slice (some ⟨p, 0, none⟩) a a, .slice none 0 0, .slice (some ⟨q, 0, none⟩) c c, .slice (some ⟨s, 0, none⟩) d d]) := ⟨X, p, q, s, hx, h1, h2, h3, h4, h5, h6, h7, h8, h9⟩
set_option maxRecDepth 100000 in
set_option maxHeartbeats 12800000 in
theorem many_go (a n c d : Nat) (w : World) (hT : Tab w) (ha : a ≤ 80) (hn : n ≤ 60) (hc : c ≤ 20) (hd : d ≤ 80) : Calls Tryd.prog 8 #[.int .i64 a, .int .i64 n, .int .i64 c, .int .i64 d] w fun e w' => e = .returned (.bool true) ∧ Below w.heap.size w w' := by
  obtain ⟨i1, i10, i11, i12, i13⟩ := info_parts infoInt
  obtain ⟨i2, i20, i21, i22, i23⟩ := info_parts infoTx
  obtain ⟨i3, i30, i31, i32, i33⟩ := info_parts infoDir
  have m1 : ∀ w, (Instr.makeSlice 24 (.int .i64 (a : Int)) (.int .i64 (a : Int))).run Tryd.prog w = .ok (.slice (some ⟨w.heap.size, 0, none⟩) a a) (w.alloc (.cells (cellsI a) 3 (0, 0))) := fun w => by
    have := run_make (P := Tryd.prog) w 24 3 i1 _ Tryd.underlying24 i10 i11 .i64 .i64 a a (by omega) (by omega) (by rw [i13]; omega) (by omega)
    rw [i12, Int.toNat_natCast, Nat.mul_one] at this
    exact this
  have m2 : ∀ w, (Instr.makeSlice 26 (.int .i64 (c : Int)) (.int .i64 (c : Int))).run Tryd.prog w = .ok (.slice (some ⟨w.heap.size, 0, none⟩) c c) (w.alloc (.cells (cellsT c) 41 (0, 0))) := fun w => by
    have := run_make (P := Tryd.prog) w 26 41 i2 _ Tryd.underlying26 i20 i21 .i64 .i64 c c (by omega) (by omega) (by rw [i23]; omega) (by omega)
    rw [i22, Int.toNat_natCast] at this
    exact this
  have m3 : ∀ w, (Instr.makeSlice 27 (.int .i64 (d : Int)) (.int .i64 (d : Int))).run Tryd.prog w = .ok (.slice (some ⟨w.heap.size, 0, none⟩) d d) (w.alloc (.cells (cellsD d) 55 (0, 0))) := fun w => by
    have := run_make (P := Tryd.prog) w 27 55 i3 _ Tryd.underlying27 i30 i31 .i64 .i64 d d (by omega) (by omega) (by rw [i33]; omega) (by omega)
    rw [i32, Int.toNat_natCast] at this
    exact this
  clear i10 i11 i12 i13 i20 i21 i22 i23 i30 i31 i32 i33
  have q1 : decide ((a : Int) < 0) = false := decide_eq_false (by omega)
  have q2 : decide ((80 : Int) < a) = false := decide_eq_false (by omega)
  have q3 : decide ((n : Int) < 0) = false := decide_eq_false (by omega)
  have q4 : decide ((60 : Int) < n) = false := decide_eq_false (by omega)
  have q5 : decide ((c : Int) < 0) = false := decide_eq_false (by omega)
  have q6 : decide ((20 : Int) < c) = false := decide_eq_false (by omega)
  have q7 : decide ((d : Int) < 0) = false := decide_eq_false (by omega)
  have q8 : decide ((80 : Int) < d) = false := decide_eq_false (by omega)
  go_enter Tryd.func8, Tryd.ntmps8
  go_wp2_with fail
  refine (alive_true _ hT).mono ?_
  rintro e w1 ⟨rfl, hb1⟩
  replace hb1 := Lib.hid hb1
  go_upto_region 3 with fail
  go_cut [9] (fun xp wr => ∃ X p q s : Nat, xp = .pointer (some ⟨X, 0, none⟩) ∧ Aside (MAt w wr X p q s a c d #[.int .i64 7, .int .i64 0, .int .i64 0, .int .i64 0, .string ⟨#[]⟩, .bool false, .string ⟨#[]⟩, .string ⟨#[]⟩, .int .i64 0, .int .i64 0, .slice (some ⟨p, 0, none⟩) a a, .slice none 0 0, .slice (some ⟨q, 0, none⟩) c c, .slice (some ⟨s, 0, none⟩) d d]))
  case first =>
    refine wp_region_any (by kernel_rfl) ?_
    try (change wpAny _ _ _ _ _ _ _ (World.drew _))
    refine wpAny_take (i := 0) (v := ?_) rfl (by kernel_rfl) (by kernel_rfl) (by kernel_rfl) (fun _ _ _ h => h) (Or.inl ⟨by rfl, ?_⟩) ?_
    rotate_left
    · (intro w; go_simp; (try with_reducible rfl))
    try simp only [Act.put, List.getElem_toArray, List.getElem_cons_zero, List.getElem_cons_succ, List.setIfInBounds_toArray, List.set_cons_zero, List.set_cons_succ]
    refine wpAny_take (i := 2) (v := ?_) rfl (by kernel_rfl) (by kernel_rfl) (by kernel_rfl) (fun _ _ _ h => h) (Or.inl ⟨by rfl, ?_⟩) ?_
    rotate_left
    · (intro w; go_simp; (try with_reducible rfl))
    try simp only [Act.put, List.getElem_toArray, List.getElem_cons_zero, List.getElem_cons_succ, List.setIfInBounds_toArray, List.set_cons_zero, List.set_cons_succ]
    refine wpAny_take (i := 4) (v := ?_) rfl (by kernel_rfl) (by kernel_rfl) (by kernel_rfl) (fun _ _ _ h => h) (Or.inl ⟨by rfl, ?_⟩) ?_
    rotate_left
    · (intro w; go_simp; (try with_reducible rfl))
    try simp only [Act.put, List.getElem_toArray, List.getElem_cons_zero, List.getElem_cons_succ, List.setIfInBounds_toArray, List.set_cons_zero, List.set_cons_succ]
    refine wpAny_ready (rs := [1, 3, 5, 7]) (by kernel_rfl) (by simp) ?_
    refine AllReady.cons rfl (fun K hK => ?_) (AllReady.cons rfl (fun K hK => ?_) (AllReady.cons rfl (fun K hK => ?_) (AllReady.cons rfl (fun K hK => ?_) AllReady.nil)))
    · simp only [List.getElem_toArray, List.getElem_cons_zero, List.getElem_cons_succ]
      go_simp
      refine hK _ _ ?_
      clear hK K
      as_aux_lemma =>
      try simp only [Act.put, List.getElem_toArray, List.getElem_cons_zero, List.getElem_cons_succ, List.setIfInBounds_toArray, List.set_cons_zero, List.set_cons_succ]
      refine wpAny_ready (rs := [3, 5, 7]) (by kernel_rfl) (by simp) ?_
      refine AllReady.cons rfl (fun K hK => ?_) (AllReady.cons rfl (fun K hK => ?_) (AllReady.cons rfl (fun K hK => ?_) AllReady.nil))
      · simp only [List.getElem_toArray, List.getElem_cons_zero, List.getElem_cons_succ]
        go_simp
        refine hK _ _ ?_
        clear hK K
        as_aux_lemma =>
        try simp only [Act.put, List.getElem_toArray, List.getElem_cons_zero, List.getElem_cons_succ, List.setIfInBounds_toArray, List.set_cons_zero, List.set_cons_succ]
        refine wpAny_ready (rs := [5, 7]) (by kernel_rfl) (by simp) ?_
        refine AllReady.cons rfl (fun K hK => ?_) (AllReady.cons rfl (fun K hK => ?_) AllReady.nil)
        · simp only [List.getElem_toArray, List.getElem_cons_zero, List.getElem_cons_succ]
          go_simp
          refine hK _ _ ?_
          clear hK K
          try simp only [Act.put, List.getElem_toArray, List.getElem_cons_zero, List.getElem_cons_succ, List.setIfInBounds_toArray, List.set_cons_zero, List.set_cons_succ]
          refine wpAny_take (i := 6) (v := ?_) rfl (by kernel_rfl) (by kernel_rfl) (by kernel_rfl) (fun _ _ _ h => h) (Or.inl ⟨by rfl, ?_⟩) ?_
          rotate_left
          · (intro w; go_simp; (try with_reducible rfl))
          try simp only [Act.put, List.getElem_toArray, List.getElem_cons_zero, List.getElem_cons_succ, List.setIfInBounds_toArray, List.set_cons_zero, List.set_cons_succ]
          refine wpAny_ready (rs := [7]) (by kernel_rfl) (by simp) ?_
          refine AllReady.cons rfl (fun K hK => ?_) AllReady.nil
          · simp only [List.getElem_toArray, List.getElem_cons_zero, List.getElem_cons_succ]
            go_simp
            refine hK _ _ ?_
            clear hK K
            try simp only [Act.put, List.getElem_toArray, List.getElem_cons_zero, List.getElem_cons_succ, List.setIfInBounds_toArray, List.set_cons_zero, List.set_cons_succ]
            refine wpAny_ready (rs := [8]) (by kernel_rfl) (by simp) ?_
            refine AllReady.cons rfl (fun K hK => ?_) AllReady.nil
            · simp only [List.getElem_toArray, List.getElem_cons_zero, List.getElem_cons_succ]
              go_simp
              refine hK _ _ ?_
              clear hK K
              try simp only [Act.put, List.getElem_toArray, List.getElem_cons_zero, List.getElem_cons_succ, List.setIfInBounds_toArray, List.set_cons_zero, List.set_cons_succ]
              refine wpAny_done (by kernel_rfl) ?_ _
              go_wp2
              go_meet
              apply many_rel rfl
              case h1 => first | exact four.1 | exact four.2.1 | exact four.2.2.1 | exact four.2.2.2
              case h2 => first | exact four.1 | exact four.2.1 | exact four.2.2.1 | exact four.2.2.2
              case h3 => first | exact four.1 | exact four.2.1 | exact four.2.2.1 | exact four.2.2.2
              case h4 => first | exact four.1 | exact four.2.1 | exact four.2.2.1 | exact four.2.2.2
              case h5 => have := hb1.out.size; omega
              case h6 => omega
              case h7 => omega
              case h8 => omega
              case h9 => exact (four_below hb1.out).drew
        · simp only [List.getElem_toArray, List.getElem_cons_zero, List.getElem_cons_succ]
          go_simp
          refine hK _ _ ?_
          clear hK K
          try simp only [Act.put, List.getElem_toArray, List.getElem_cons_zero, List.getElem_cons_succ, List.setIfInBounds_toArray, List.set_cons_zero, List.set_cons_succ]
          refine wpAny_ready (rs := [5]) (by kernel_rfl) (by simp) ?_
          refine AllReady.cons rfl (fun K hK => ?_) AllReady.nil
          · simp only [List.getElem_toArray, List.getElem_cons_zero, List.getElem_cons_succ]
            go_simp
            refine hK _ _ ?_
            clear hK K
            try simp only [Act.put, List.getElem_toArray, List.getElem_cons_zero, List.getElem_cons_succ, List.setIfInBounds_toArray, List.set_cons_zero, List.set_cons_succ]
            refine wpAny_take (i := 6) (v := ?_) rfl (by kernel_rfl) (by kernel_rfl) (by kernel_rfl) (fun _ _ _ h => h) (Or.inl ⟨by rfl, ?_⟩) ?_
            rotate_left
            · (intro w; go_simp; (try with_reducible rfl))
            try simp only [Act.put, List.getElem_toArray, List.getElem_cons_zero, List.getElem_cons_succ, List.setIfInBounds_toArray, List.set_cons_zero, List.set_cons_succ]
            refine wpAny_ready (rs := [8]) (by kernel_rfl) (by simp) ?_
            refine AllReady.cons rfl (fun K hK => ?_) AllReady.nil
            · simp only [List.getElem_toArray, List.getElem_cons_zero, List.getElem_cons_succ]
              go_simp
              refine hK _ _ ?_
              clear hK K
              try simp only [Act.put, List.getElem_toArray, List.getElem_cons_zero, List.getElem_cons_succ, List.setIfInBounds_toArray, List.set_cons_zero, List.set_cons_succ]
              refine wpAny_done (by kernel_rfl) ?_ _
              go_wp2
              go_meet
              apply many_rel rfl
              case h1 => first | exact four.1 | exact four.2.1 | exact four.2.2.1 | exact four.2.2.2
              case h2 => first | exact four.1 | exact four.2.1 | exact four.2.2.1 | exact four.2.2.2
              case h3 => first | exact four.1 | exact four.2.1 | exact four.2.2.1 | exact four.2.2.2
              case h4 => first | exact four.1 | exact four.2.1 | exact four.2.2.1 | exact four.2.2.2
              case h5 => have := hb1.out.size; omega
              case h6 => omega
              case h7 => omega
              case h8 => omega
              case h9 => exact (four_below hb1.out).drew
      · simp only [List.getElem_toArray, List.getElem_cons_zero, List.getElem_cons_succ]
        go_simp
        refine hK _ _ ?_
        clear hK K
        as_aux_lemma =>
        try simp only [Act.put, List.getElem_toArray, List.getElem_cons_zero, List.getElem_cons_succ, List.setIfInBounds_toArray, List.set_cons_zero, List.set_cons_succ]
        refine wpAny_ready (rs := [3, 7]) (by kernel_rfl) (by simp) ?_
        refine AllReady.cons rfl (fun K hK => ?_) (AllReady.cons rfl (fun K hK => ?_) AllReady.nil)
        · simp only [List.getElem_toArray, List.getElem_cons_zero, List.getElem_cons_succ]
          go_simp
          refine hK _ _ ?_
          clear hK K
          try simp only [Act.put, List.getElem_toArray, List.getElem_cons_zero, List.getElem_cons_succ, List.setIfInBounds_toArray, List.set_cons_zero, List.set_cons_succ]
          refine wpAny_take (i := 6) (v := ?_) rfl (by kernel_rfl) (by kernel_rfl) (by kernel_rfl) (fun _ _ _ h => h) (Or.inl ⟨by rfl, ?_⟩) ?_
          rotate_left
          · (intro w; go_simp; (try with_reducible rfl))
          try simp only [Act.put, List.getElem_toArray, List.getElem_cons_zero, List.getElem_cons_succ, List.setIfInBounds_toArray, List.set_cons_zero, List.set_cons_succ]
          refine wpAny_ready (rs := [7]) (by kernel_rfl) (by simp) ?_
          refine AllReady.cons rfl (fun K hK => ?_) AllReady.nil
          · simp only [List.getElem_toArray, List.getElem_cons_zero, List.getElem_cons_succ]
            go_simp
            refine hK _ _ ?_
            clear hK K
            try simp only [Act.put, List.getElem_toArray, List.getElem_cons_zero, List.getElem_cons_succ, List.setIfInBounds_toArray, List.set_cons_zero, List.set_cons_succ]
            refine wpAny_ready (rs := [8]) (by kernel_rfl) (by simp) ?_
            refine AllReady.cons rfl (fun K hK => ?_) AllReady.nil
            · simp only [List.getElem_toArray, List.getElem_cons_zero, List.getElem_cons_succ]
              go_simp
              refine hK _ _ ?_
              clear hK K
              try simp only [Act.put, List.getElem_toArray, List.getElem_cons_zero, List.getElem_cons_succ, List.setIfInBounds_toArray, List.set_cons_zero, List.set_cons_succ]
              refine wpAny_done (by kernel_rfl) ?_ _
              go_wp2
              go_meet
              apply many_rel rfl
              case h1 => first | exact four.1 | exact four.2.1 | exact four.2.2.1 | exact four.2.2.2
              case h2 => first | exact four.1 | exact four.2.1 | exact four.2.2.1 | exact four.2.2.2
              case h3 => first | exact four.1 | exact four.2.1 | exact four.2.2.1 | exact four.2.2.2
              case h4 => first | exact four.1 | exact four.2.1 | exact four.2.2.1 | exact four.2.2.2
              case h5 => have := hb1.out.size; omega
              case h6 => omega
              case h7 => omega
              case h8 => omega
              case h9 => exact (four_below hb1.out).drew
        · simp only [List.getElem_toArray, List.getElem_cons_zero, List.getElem_cons_succ]
          go_simp
          refine hK _ _ ?_
          clear hK K
          try simp only [Act.put, List.getElem_toArray, List.getElem_cons_zero, List.getElem_cons_succ, List.setIfInBounds_toArray, List.set_cons_zero, List.set_cons_succ]
          refine wpAny_ready (rs := [3]) (by kernel_rfl) (by simp) ?_
          refine AllReady.cons rfl (fun K hK => ?_) AllReady.nil
          · simp only [List.getElem_toArray, List.getElem_cons_zero, List.getElem_cons_succ]
            go_simp
            refine hK _ _ ?_
            clear hK K
            try simp only [Act.put, List.getElem_toArray, List.getElem_cons_zero, List.getElem_cons_succ, List.setIfInBounds_toArray, List.set_cons_zero, List.set_cons_succ]
            refine wpAny_take (i := 6) (v := ?_) rfl (by kernel_rfl) (by kernel_rfl) (by kernel_rfl) (fun _ _ _ h => h) (Or.inl ⟨by rfl, ?_⟩) ?_
            rotate_left
            · (intro w; go_simp; (try with_reducible rfl))
            try simp only [Act.put, List.getElem_toArray, List.getElem_cons_zero, List.getElem_cons_succ, List.setIfInBounds_toArray, List.set_cons_zero, List.set_cons_succ]
            refine wpAny_ready (rs := [8]) (by kernel_rfl) (by simp) ?_
            refine AllReady.cons rfl (fun K hK => ?_) AllReady.nil
            · simp only [List.getElem_toArray, List.getElem_cons_zero, List.getElem_cons_succ]
              go_simp
              refine hK _ _ ?_
              clear hK K
              try simp only [Act.put, List.getElem_toArray, List.getElem_cons_zero, List.getElem_cons_succ, List.setIfInBounds_toArray, List.set_cons_zero, List.set_cons_succ]
              refine wpAny_done (by kernel_rfl) ?_ _
              go_wp2
              go_meet
              apply many_rel rfl
              case h1 => first | exact four.1 | exact four.2.1 | exact four.2.2.1 | exact four.2.2.2
              case h2 => first | exact four.1 | exact four.2.1 | exact four.2.2.1 | exact four.2.2.2
              case h3 => first | exact four.1 | exact four.2.1 | exact four.2.2.1 | exact four.2.2.2
              case h4 => first | exact four.1 | exact four.2.1 | exact four.2.2.1 | exact four.2.2.2
              case h5 => have := hb1.out.size; omega
              case h6 => omega
              case h7 => omega
              case h8 => omega
              case h9 => exact (four_below hb1.out).drew
      · simp only [List.getElem_toArray, List.getElem_cons_zero, List.getElem_cons_succ]
        go_simp
        refine hK _ _ ?_
        clear hK K
        as_aux_lemma =>
        try simp only [Act.put, List.getElem_toArray, List.getElem_cons_zero, List.getElem_cons_succ, List.setIfInBounds_toArray, List.set_cons_zero, List.set_cons_succ]
        refine wpAny_ready (rs := [3, 5]) (by kernel_rfl) (by simp) ?_
        refine AllReady.cons rfl (fun K hK => ?_) (AllReady.cons rfl (fun K hK => ?_) AllReady.nil)
        · simp only [List.getElem_toArray, List.getElem_cons_zero, List.getElem_cons_succ]
          go_simp
          refine hK _ _ ?_
          clear hK K
          try simp only [Act.put, List.getElem_toArray, List.getElem_cons_zero, List.getElem_cons_succ, List.setIfInBounds_toArray, List.set_cons_zero, List.set_cons_succ]
          refine wpAny_ready (rs := [5]) (by kernel_rfl) (by simp) ?_
          refine AllReady.cons rfl (fun K hK => ?_) AllReady.nil
          · simp only [List.getElem_toArray, List.getElem_cons_zero, List.getElem_cons_succ]
            go_simp
            refine hK _ _ ?_
            clear hK K
            try simp only [Act.put, List.getElem_toArray, List.getElem_cons_zero, List.getElem_cons_succ, List.setIfInBounds_toArray, List.set_cons_zero, List.set_cons_succ]
            refine wpAny_take (i := 6) (v := ?_) rfl (by kernel_rfl) (by kernel_rfl) (by kernel_rfl) (fun _ _ _ h => h) (Or.inl ⟨by rfl, ?_⟩) ?_
            rotate_left
            · (intro w; go_simp; (try with_reducible rfl))
            try simp only [Act.put, List.getElem_toArray, List.getElem_cons_zero, List.getElem_cons_succ, List.setIfInBounds_toArray, List.set_cons_zero, List.set_cons_succ]
            refine wpAny_ready (rs := [8]) (by kernel_rfl) (by simp) ?_
            refine AllReady.cons rfl (fun K hK => ?_) AllReady.nil
            · simp only [List.getElem_toArray, List.getElem_cons_zero, List.getElem_cons_succ]
              go_simp
              refine hK _ _ ?_
              clear hK K
              try simp only [Act.put, List.getElem_toArray, List.getElem_cons_zero, List.getElem_cons_succ, List.setIfInBounds_toArray, List.set_cons_zero, List.set_cons_succ]
              refine wpAny_done (by kernel_rfl) ?_ _
              go_wp2
              go_meet
              apply many_rel rfl
              case h1 => first | exact four.1 | exact four.2.1 | exact four.2.2.1 | exact four.2.2.2
              case h2 => first | exact four.1 | exact four.2.1 | exact four.2.2.1 | exact four.2.2.2
              case h3 => first | exact four.1 | exact four.2.1 | exact four.2.2.1 | exact four.2.2.2
              case h4 => first | exact four.1 | exact four.2.1 | exact four.2.2.1 | exact four.2.2.2
              case h5 => have := hb1.out.size; omega
              case h6 => omega
              case h7 => omega
              case h8 => omega
              case h9 => exact (four_below hb1.out).drew
        · simp only [List.getElem_toArray, List.getElem_cons_zero, List.getElem_cons_succ]
          go_simp
          refine hK _ _ ?_
          clear hK K
          try simp only [Act.put, List.getElem_toArray, List.getElem_cons_zero, List.getElem_cons_succ, List.setIfInBounds_toArray, List.set_cons_zero, List.set_cons_succ]
          refine wpAny_ready (rs := [3]) (by kernel_rfl) (by simp) ?_
          refine AllReady.cons rfl (fun K hK => ?_) AllReady.nil
          · simp only [List.getElem_toArray, List.getElem_cons_zero, List.getElem_cons_succ]
            go_simp
            refine hK _ _ ?_
            clear hK K
            try simp only [Act.put, List.getElem_toArray, List.getElem_cons_zero, List.getElem_cons_succ, List.setIfInBounds_toArray, List.set_cons_zero, List.set_cons_succ]
            refine wpAny_take (i := 6) (v := ?_) rfl (by kernel_rfl) (by kernel_rfl) (by kernel_rfl) (fun _ _ _ h => h) (Or.inl ⟨by rfl, ?_⟩) ?_
            rotate_left
            · (intro w; go_simp; (try with_reducible rfl))
            try simp only [Act.put, List.getElem_toArray, List.getElem_cons_zero, List.getElem_cons_succ, List.setIfInBounds_toArray, List.set_cons_zero, List.set_cons_succ]
            refine wpAny_ready (rs := [8]) (by kernel_rfl) (by simp) ?_
            refine AllReady.cons rfl (fun K hK => ?_) AllReady.nil
            · simp only [List.getElem_toArray, List.getElem_cons_zero, List.getElem_cons_succ]
              go_simp
              refine hK _ _ ?_
              clear hK K
              try simp only [Act.put, List.getElem_toArray, List.getElem_cons_zero, List.getElem_cons_succ, List.setIfInBounds_toArray, List.set_cons_zero, List.set_cons_succ]
              refine wpAny_done (by kernel_rfl) ?_ _
              go_wp2
              go_meet
              apply many_rel rfl
              case h1 => first | exact four.1 | exact four.2.1 | exact four.2.2.1 | exact four.2.2.2
              case h2 => first | exact four.1 | exact four.2.1 | exact four.2.2.1 | exact four.2.2.2
              case h3 => first | exact four.1 | exact four.2.1 | exact four.2.2.1 | exact four.2.2.2
              case h4 => first | exact four.1 | exact four.2.1 | exact four.2.2.1 | exact four.2.2.2
              case h5 => have := hb1.out.size; omega
              case h6 => omega
              case h7 => omega
              case h8 => omega
              case h9 => exact (four_below hb1.out).drew
    · simp only [List.getElem_toArray, List.getElem_cons_zero, List.getElem_cons_succ]
      go_simp
      refine hK _ _ ?_
      clear hK K
      as_aux_lemma =>
      try simp only [Act.put, List.getElem_toArray, List.getElem_cons_zero, List.getElem_cons_succ, List.setIfInBounds_toArray, List.set_cons_zero, List.set_cons_succ]
      refine wpAny_ready (rs := [1, 5, 7]) (by kernel_rfl) (by simp) ?_
      refine AllReady.cons rfl (fun K hK => ?_) (AllReady.cons rfl (fun K hK => ?_) (AllReady.cons rfl (fun K hK => ?_) AllReady.nil))
      · simp only [List.getElem_toArray, List.getElem_cons_zero, List.getElem_cons_succ]
        go_simp
        refine hK _ _ ?_
        clear hK K
        as_aux_lemma =>
        try simp only [Act.put, List.getElem_toArray, List.getElem_cons_zero, List.getElem_cons_succ, List.setIfInBounds_toArray, List.set_cons_zero, List.set_cons_succ]
        refine wpAny_ready (rs := [5, 7]) (by kernel_rfl) (by simp) ?_
        refine AllReady.cons rfl (fun K hK => ?_) (AllReady.cons rfl (fun K hK => ?_) AllReady.nil)
        · simp only [List.getElem_toArray, List.getElem_cons_zero, List.getElem_cons_succ]
          go_simp
          refine hK _ _ ?_
          clear hK K
          try simp only [Act.put, List.getElem_toArray, List.getElem_cons_zero, List.getElem_cons_succ, List.setIfInBounds_toArray, List.set_cons_zero, List.set_cons_succ]
          refine wpAny_take (i := 6) (v := ?_) rfl (by kernel_rfl) (by kernel_rfl) (by kernel_rfl) (fun _ _ _ h => h) (Or.inl ⟨by rfl, ?_⟩) ?_
          rotate_left
          · (intro w; go_simp; (try with_reducible rfl))
          try simp only [Act.put, List.getElem_toArray, List.getElem_cons_zero, List.getElem_cons_succ, List.setIfInBounds_toArray, List.set_cons_zero, List.set_cons_succ]
          refine wpAny_ready (rs := [7]) (by kernel_rfl) (by simp) ?_
          refine AllReady.cons rfl (fun K hK => ?_) AllReady.nil
          · simp only [List.getElem_toArray, List.getElem_cons_zero, List.getElem_cons_succ]
            go_simp
            refine hK _ _ ?_
            clear hK K
            try simp only [Act.put, List.getElem_toArray, List.getElem_cons_zero, List.getElem_cons_succ, List.setIfInBounds_toArray, List.set_cons_zero, List.set_cons_succ]
            refine wpAny_ready (rs := [8]) (by kernel_rfl) (by simp) ?_
            refine AllReady.cons rfl (fun K hK => ?_) AllReady.nil
            · simp only [List.getElem_toArray, List.getElem_cons_zero, List.getElem_cons_succ]
              go_simp
              refine hK _ _ ?_
              clear hK K
              try simp only [Act.put, List.getElem_toArray, List.getElem_cons_zero, List.getElem_cons_succ, List.setIfInBounds_toArray, List.set_cons_zero, List.set_cons_succ]
              refine wpAny_done (by kernel_rfl) ?_ _
              go_wp2
              go_meet
              apply many_rel rfl
              case h1 => first | exact four.1 | exact four.2.1 | exact four.2.2.1 | exact four.2.2.2
              case h2 => first | exact four.1 | exact four.2.1 | exact four.2.2.1 | exact four.2.2.2
              case h3 => first | exact four.1 | exact four.2.1 | exact four.2.2.1 | exact four.2.2.2
              case h4 => first | exact four.1 | exact four.2.1 | exact four.2.2.1 | exact four.2.2.2
              case h5 => have := hb1.out.size; omega
              case h6 => omega
              case h7 => omega
              case h8 => omega
              case h9 => exact (four_below hb1.out).drew
        · simp only [List.getElem_toArray, List.getElem_cons_zero, List.getElem_cons_succ]
          go_simp
          refine hK _ _ ?_
          clear hK K
          try simp only [Act.put, List.getElem_toArray, List.getElem_cons_zero, List.getElem_cons_succ, List.setIfInBounds_toArray, List.set_cons_zero, List.set_cons_succ]
          refine wpAny_ready (rs := [5]) (by kernel_rfl) (by simp) ?_
          refine AllReady.cons rfl (fun K hK => ?_) AllReady.nil
          · simp only [List.getElem_toArray, List.getElem_cons_zero, List.getElem_cons_succ]
            go_simp
            refine hK _ _ ?_
            clear hK K
            try simp only [Act.put, List.getElem_toArray, List.getElem_cons_zero, List.getElem_cons_succ, List.setIfInBounds_toArray, List.set_cons_zero, List.set_cons_succ]
            refine wpAny_take (i := 6) (v := ?_) rfl (by kernel_rfl) (by kernel_rfl) (by kernel_rfl) (fun _ _ _ h => h) (Or.inl ⟨by rfl, ?_⟩) ?_
            rotate_left
            · (intro w; go_simp; (try with_reducible rfl))
            try simp only [Act.put, List.getElem_toArray, List.getElem_cons_zero, List.getElem_cons_succ, List.setIfInBounds_toArray, List.set_cons_zero, List.set_cons_succ]
            refine wpAny_ready (rs := [8]) (by kernel_rfl) (by simp) ?_
            refine AllReady.cons rfl (fun K hK => ?_) AllReady.nil
            · simp only [List.getElem_toArray, List.getElem_cons_zero, List.getElem_cons_succ]
              go_simp
              refine hK _ _ ?_
              clear hK K
              try simp only [Act.put, List.getElem_toArray, List.getElem_cons_zero, List.getElem_cons_succ, List.setIfInBounds_toArray, List.set_cons_zero, List.set_cons_succ]
              refine wpAny_done (by kernel_rfl) ?_ _
              go_wp2
              go_meet
              apply many_rel rfl
              case h1 => first | exact four.1 | exact four.2.1 | exact four.2.2.1 | exact four.2.2.2
              case h2 => first | exact four.1 | exact four.2.1 | exact four.2.2.1 | exact four.2.2.2
              case h3 => first | exact four.1 | exact four.2.1 | exact four.2.2.1 | exact four.2.2.2
              case h4 => first | exact four.1 | exact four.2.1 | exact four.2.2.1 | exact four.2.2.2
              case h5 => have := hb1.out.size; omega
              case h6 => omega
              case h7 => omega
              case h8 => omega
              case h9 => exact (four_below hb1.out).drew
      · simp only [List.getElem_toArray, List.getElem_cons_zero, List.getElem_cons_succ]
        go_simp
        refine hK _ _ ?_
        clear hK K
        as_aux_lemma =>
        try simp only [Act.put, List.getElem_toArray, List.getElem_cons_zero, List.getElem_cons_succ, List.setIfInBounds_toArray, List.set_cons_zero, List.set_cons_succ]
        refine wpAny_ready (rs := [1, 7]) (by kernel_rfl) (by simp) ?_
        refine AllReady.cons rfl (fun K hK => ?_) (AllReady.cons rfl (fun K hK => ?_) AllReady.nil)
        · simp only [List.getElem_toArray, List.getElem_cons_zero, List.getElem_cons_succ]
          go_simp
          refine hK _ _ ?_
          clear hK K
          try simp only [Act.put, List.getElem_toArray, List.getElem_cons_zero, List.getElem_cons_succ, List.setIfInBounds_toArray, List.set_cons_zero, List.set_cons_succ]
          refine wpAny_take (i := 6) (v := ?_) rfl (by kernel_rfl) (by kernel_rfl) (by kernel_rfl) (fun _ _ _ h => h) (Or.inl ⟨by rfl, ?_⟩) ?_
          rotate_left
          · (intro w; go_simp; (try with_reducible rfl))
          try simp only [Act.put, List.getElem_toArray, List.getElem_cons_zero, List.getElem_cons_succ, List.setIfInBounds_toArray, List.set_cons_zero, List.set_cons_succ]
          refine wpAny_ready (rs := [7]) (by kernel_rfl) (by simp) ?_
          refine AllReady.cons rfl (fun K hK => ?_) AllReady.nil
          · simp only [List.getElem_toArray, List.getElem_cons_zero, List.getElem_cons_succ]
            go_simp
            refine hK _ _ ?_
            clear hK K
            try simp only [Act.put, List.getElem_toArray, List.getElem_cons_zero, List.getElem_cons_succ, List.setIfInBounds_toArray, List.set_cons_zero, List.set_cons_succ]
            refine wpAny_ready (rs := [8]) (by kernel_rfl) (by simp) ?_
            refine AllReady.cons rfl (fun K hK => ?_) AllReady.nil
            · simp only [List.getElem_toArray, List.getElem_cons_zero, List.getElem_cons_succ]
              go_simp
              refine hK _ _ ?_
              clear hK K
              try simp only [Act.put, List.getElem_toArray, List.getElem_cons_zero, List.getElem_cons_succ, List.setIfInBounds_toArray, List.set_cons_zero, List.set_cons_succ]
              refine wpAny_done (by kernel_rfl) ?_ _
              go_wp2
              go_meet
              apply many_rel rfl
              case h1 => first | exact four.1 | exact four.2.1 | exact four.2.2.1 | exact four.2.2.2
              case h2 => first | exact four.1 | exact four.2.1 | exact four.2.2.1 | exact four.2.2.2
              case h3 => first | exact four.1 | exact four.2.1 | exact four.2.2.1 | exact four.2.2.2
              case h4 => first | exact four.1 | exact four.2.1 | exact four.2.2.1 | exact four.2.2.2
              case h5 => have := hb1.out.size; omega
              case h6 => omega
              case h7 => omega
              case h8 => omega
              case h9 => exact (four_below hb1.out).drew
        · simp only [List.getElem_toArray, List.getElem_cons_zero, List.getElem_cons_succ]
          go_simp
          refine hK _ _ ?_
          clear hK K
          try simp only [Act.put, List.getElem_toArray, List.getElem_cons_zero, List.getElem_cons_succ, List.setIfInBounds_toArray, List.set_cons_zero, List.set_cons_succ]
          refine wpAny_ready (rs := [1]) (by kernel_rfl) (by simp) ?_
          refine AllReady.cons rfl (fun K hK => ?_) AllReady.nil
          · simp only [List.getElem_toArray, List.getElem_cons_zero, List.getElem_cons_succ]
            go_simp
            refine hK _ _ ?_
            clear hK K
            try simp only [Act.put, List.getElem_toArray, List.getElem_cons_zero, List.getElem_cons_succ, List.setIfInBounds_toArray, List.set_cons_zero, List.set_cons_succ]
            refine wpAny_take (i := 6) (v := ?_) rfl (by kernel_rfl) (by kernel_rfl) (by kernel_rfl) (fun _ _ _ h => h) (Or.inl ⟨by rfl, ?_⟩) ?_
            rotate_left
            · (intro w; go_simp; (try with_reducible rfl))
            try simp only [Act.put, List.getElem_toArray, List.getElem_cons_zero, List.getElem_cons_succ, List.setIfInBounds_toArray, List.set_cons_zero, List.set_cons_succ]
            refine wpAny_ready (rs := [8]) (by kernel_rfl) (by simp) ?_
            refine AllReady.cons rfl (fun K hK => ?_) AllReady.nil
            · simp only [List.getElem_toArray, List.getElem_cons_zero, List.getElem_cons_succ]
              go_simp
              refine hK _ _ ?_
              clear hK K
              try simp only [Act.put, List.getElem_toArray, List.getElem_cons_zero, List.getElem_cons_succ, List.setIfInBounds_toArray, List.set_cons_zero, List.set_cons_succ]
              refine wpAny_done (by kernel_rfl) ?_ _
              go_wp2
              go_meet
              apply many_rel rfl
              case h1 => first | exact four.1 | exact four.2.1 | exact four.2.2.1 | exact four.2.2.2
              case h2 => first | exact four.1 | exact four.2.1 | exact four.2.2.1 | exact four.2.2.2
              case h3 => first | exact four.1 | exact four.2.1 | exact four.2.2.1 | exact four.2.2.2
              case h4 => first | exact four.1 | exact four.2.1 | exact four.2.2.1 | exact four.2.2.2
              case h5 => have := hb1.out.size; omega
              case h6 => omega
              case h7 => omega
              case h8 => omega
              case h9 => exact (four_below hb1.out).drew
      · simp only [List.getElem_toArray, List.getElem_cons_zero, List.getElem_cons_succ]
        go_simp
        refine hK _ _ ?_
        clear hK K
        as_aux_lemma =>
        try simp only [Act.put, List.getElem_toArray, List.getElem_cons_zero, List.getElem_cons_succ, List.setIfInBounds_toArray, List.set_cons_zero, List.set_cons_succ]
        refine wpAny_ready (rs := [1, 5]) (by kernel_rfl) (by simp) ?_
        refine AllReady.cons rfl (fun K hK => ?_) (AllReady.cons rfl (fun K hK => ?_) AllReady.nil)
        · simp only [List.getElem_toArray, List.getElem_cons_zero, List.getElem_cons_succ]
          go_simp
          refine hK _ _ ?_
          clear hK K
          try simp only [Act.put, List.getElem_toArray, List.getElem_cons_zero, List.getElem_cons_succ, List.setIfInBounds_toArray, List.set_cons_zero, List.set_cons_succ]
          refine wpAny_ready (rs := [5]) (by kernel_rfl) (by simp) ?_
          refine AllReady.cons rfl (fun K hK => ?_) AllReady.nil
          · simp only [List.getElem_toArray, List.getElem_cons_zero, List.getElem_cons_succ]
            go_simp
            refine hK _ _ ?_
            clear hK K
            try simp only [Act.put, List.getElem_toArray, List.getElem_cons_zero, List.getElem_cons_succ, List.setIfInBounds_toArray, List.set_cons_zero, List.set_cons_succ]
            refine wpAny_take (i := 6) (v := ?_) rfl (by kernel_rfl) (by kernel_rfl) (by kernel_rfl) (fun _ _ _ h => h) (Or.inl ⟨by rfl, ?_⟩) ?_
            rotate_left
            · (intro w; go_simp; (try with_reducible rfl))
            try simp only [Act.put, List.getElem_toArray, List.getElem_cons_zero, List.getElem_cons_succ, List.setIfInBounds_toArray, List.set_cons_zero, List.set_cons_succ]
            refine wpAny_ready (rs := [8]) (by kernel_rfl) (by simp) ?_
            refine AllReady.cons rfl (fun K hK => ?_) AllReady.nil
            · simp only [List.getElem_toArray, List.getElem_cons_zero, List.getElem_cons_succ]
              go_simp
              refine hK _ _ ?_
              clear hK K
              try simp only [Act.put, List.getElem_toArray, List.getElem_cons_zero, List.getElem_cons_succ, List.setIfInBounds_toArray, List.set_cons_zero, List.set_cons_succ]
              refine wpAny_done (by kernel_rfl) ?_ _
              go_wp2
              go_meet
              apply many_rel rfl
              case h1 => first | exact four.1 | exact four.2.1 | exact four.2.2.1 | exact four.2.2.2
              case h2 => first | exact four.1 | exact four.2.1 | exact four.2.2.1 | exact four.2.2.2
              case h3 => first | exact four.1 | exact four.2.1 | exact four.2.2.1 | exact four.2.2.2
              case h4 => first | exact four.1 | exact four.2.1 | exact four.2.2.1 | exact four.2.2.2
              case h5 => have := hb1.out.size; omega
              case h6 => omega
              case h7 => omega
              case h8 => omega
              case h9 => exact (four_below hb1.out).drew
        · simp only [List.getElem_toArray, List.getElem_cons_zero, List.getElem_cons_succ]
          go_simp
          refine hK _ _ ?_
          clear hK K
          try simp only [Act.put, List.getElem_toArray, List.getElem_cons_zero, List.getElem_cons_succ, List.setIfInBounds_toArray, List.set_cons_zero, List.set_cons_succ]
          refine wpAny_ready (rs := [1]) (by kernel_rfl) (by simp) ?_
          refine AllReady.cons rfl (fun K hK => ?_) AllReady.nil
          · simp only [List.getElem_toArray, List.getElem_cons_zero, List.getElem_cons_succ]
            go_simp
            refine hK _ _ ?_
            clear hK K
            try simp only [Act.put, List.getElem_toArray, List.getElem_cons_zero, List.getElem_cons_succ, List.setIfInBounds_toArray, List.set_cons_zero, List.set_cons_succ]
            refine wpAny_take (i := 6) (v := ?_) rfl (by kernel_rfl) (by kernel_rfl) (by kernel_rfl) (fun _ _ _ h => h) (Or.inl ⟨by rfl, ?_⟩) ?_
            rotate_left
            · (intro w; go_simp; (try with_reducible rfl))
            try simp only [Act.put, List.getElem_toArray, List.getElem_cons_zero, List.getElem_cons_succ, List.setIfInBounds_toArray, List.set_cons_zero, List.set_cons_succ]
            refine wpAny_ready (rs := [8]) (by kernel_rfl) (by simp) ?_
            refine AllReady.cons rfl (fun K hK => ?_) AllReady.nil
            · simp only [List.getElem_toArray, List.getElem_cons_zero, List.getElem_cons_succ]
              go_simp
              refine hK _ _ ?_
              clear hK K
              try simp only [Act.put, List.getElem_toArray, List.getElem_cons_zero, List.getElem_cons_succ, List.setIfInBounds_toArray, List.set_cons_zero, List.set_cons_succ]
              refine wpAny_done (by kernel_rfl) ?_ _
              go_wp2
              go_meet
              apply many_rel rfl
              case h1 => first | exact four.1 | exact four.2.1 | exact four.2.2.1 | exact four.2.2.2
              case h2 => first | exact four.1 | exact four.2.1 | exact four.2.2.1 | exact four.2.2.2
              case h3 => first | exact four.1 | exact four.2.1 | exact four.2.2.1 | exact four.2.2.2
              case h4 => first | exact four.1 | exact four.2.1 | exact four.2.2.1 | exact four.2.2.2
              case h5 => have := hb1.out.size; omega
              case h6 => omega
              case h7 => omega
              case h8 => omega
              case h9 => exact (four_below hb1.out).drew
    · simp only [List.getElem_toArray, List.getElem_cons_zero, List.getElem_cons_succ]
      go_simp
      refine hK _ _ ?_
      clear hK K
      as_aux_lemma =>
      try simp only [Act.put, List.getElem_toArray, List.getElem_cons_zero, List.getElem_cons_succ, List.setIfInBounds_toArray, List.set_cons_zero, List.set_cons_succ]
      refine wpAny_ready (rs := [1, 3, 7]) (by kernel_rfl) (by simp) ?_
      refine AllReady.cons rfl (fun K hK => ?_) (AllReady.cons rfl (fun K hK => ?_) (AllReady.cons rfl (fun K hK => ?_) AllReady.nil))
      · simp only [List.getElem_toArray, List.getElem_cons_zero, List.getElem_cons_succ]
        go_simp
        refine hK _ _ ?_
        clear hK K
        as_aux_lemma =>
        try simp only [Act.put, List.getElem_toArray, List.getElem_cons_zero, List.getElem_cons_succ, List.setIfInBounds_toArray, List.set_cons_zero, List.set_cons_succ]
        refine wpAny_ready (rs := [3, 7]) (by kernel_rfl) (by simp) ?_
        refine AllReady.cons rfl (fun K hK => ?_) (AllReady.cons rfl (fun K hK => ?_) AllReady.nil)
        · simp only [List.getElem_toArray, List.getElem_cons_zero, List.getElem_cons_succ]
          go_simp
          refine hK _ _ ?_
          clear hK K
          try simp only [Act.put, List.getElem_toArray, List.getElem_cons_zero, List.getElem_cons_succ, List.setIfInBounds_toArray, List.set_cons_zero, List.set_cons_succ]
          refine wpAny_take (i := 6) (v := ?_) rfl (by kernel_rfl) (by kernel_rfl) (by kernel_rfl) (fun _ _ _ h => h) (Or.inl ⟨by rfl, ?_⟩) ?_
          rotate_left
          · (intro w; go_simp; (try with_reducible rfl))
          try simp only [Act.put, List.getElem_toArray, List.getElem_cons_zero, List.getElem_cons_succ, List.setIfInBounds_toArray, List.set_cons_zero, List.set_cons_succ]
          refine wpAny_ready (rs := [7]) (by kernel_rfl) (by simp) ?_
          refine AllReady.cons rfl (fun K hK => ?_) AllReady.nil
          · simp only [List.getElem_toArray, List.getElem_cons_zero, List.getElem_cons_succ]
            go_simp
            refine hK _ _ ?_
            clear hK K
            try simp only [Act.put, List.getElem_toArray, List.getElem_cons_zero, List.getElem_cons_succ, List.setIfInBounds_toArray, List.set_cons_zero, List.set_cons_succ]
            refine wpAny_ready (rs := [8]) (by kernel_rfl) (by simp) ?_
            refine AllReady.cons rfl (fun K hK => ?_) AllReady.nil
            · simp only [List.getElem_toArray, List.getElem_cons_zero, List.getElem_cons_succ]
              go_simp
              refine hK _ _ ?_
              clear hK K
              try simp only [Act.put, List.getElem_toArray, List.getElem_cons_zero, List.getElem_cons_succ, List.setIfInBounds_toArray, List.set_cons_zero, List.set_cons_succ]
              refine wpAny_done (by kernel_rfl) ?_ _
              go_wp2
              go_meet
              apply many_rel rfl
              case h1 => first | exact four.1 | exact four.2.1 | exact four.2.2.1 | exact four.2.2.2
              case h2 => first | exact four.1 | exact four.2.1 | exact four.2.2.1 | exact four.2.2.2
              case h3 => first | exact four.1 | exact four.2.1 | exact four.2.2.1 | exact four.2.2.2
              case h4 => first | exact four.1 | exact four.2.1 | exact four.2.2.1 | exact four.2.2.2
              case h5 => have := hb1.out.size; omega
              case h6 => omega
              case h7 => omega
              case h8 => omega
              case h9 => exact (four_below hb1.out).drew
        · simp only [List.getElem_toArray, List.getElem_cons_zero, List.getElem_cons_succ]
          go_simp
          refine hK _ _ ?_
          clear hK K
          try simp only [Act.put, List.getElem_toArray, List.getElem_cons_zero, List.getElem_cons_succ, List.setIfInBounds_toArray, List.set_cons_zero, List.set_cons_succ]
          refine wpAny_ready (rs := [3]) (by kernel_rfl) (by simp) ?_
          refine AllReady.cons rfl (fun K hK => ?_) AllReady.nil
          · simp only [List.getElem_toArray, List.getElem_cons_zero, List.getElem_cons_succ]
            go_simp
            refine hK _ _ ?_
            clear hK K
            try simp only [Act.put, List.getElem_toArray, List.getElem_cons_zero, List.getElem_cons_succ, List.setIfInBounds_toArray, List.set_cons_zero, List.set_cons_succ]
            refine wpAny_take (i := 6) (v := ?_) rfl (by kernel_rfl) (by kernel_rfl) (by kernel_rfl) (fun _ _ _ h => h) (Or.inl ⟨by rfl, ?_⟩) ?_
            rotate_left
            · (intro w; go_simp; (try with_reducible rfl))
            try simp only [Act.put, List.getElem_toArray, List.getElem_cons_zero, List.getElem_cons_succ, List.setIfInBounds_toArray, List.set_cons_zero, List.set_cons_succ]
            refine wpAny_ready (rs := [8]) (by kernel_rfl) (by simp) ?_
            refine AllReady.cons rfl (fun K hK => ?_) AllReady.nil
            · simp only [List.getElem_toArray, List.getElem_cons_zero, List.getElem_cons_succ]
              go_simp
              refine hK _ _ ?_
              clear hK K
              try simp only [Act.put, List.getElem_toArray, List.getElem_cons_zero, List.getElem_cons_succ, List.setIfInBounds_toArray, List.set_cons_zero, List.set_cons_succ]
              refine wpAny_done (by kernel_rfl) ?_ _
              go_wp2
              go_meet
              apply many_rel rfl
              case h1 => first | exact four.1 | exact four.2.1 | exact four.2.2.1 | exact four.2.2.2
              case h2 => first | exact four.1 | exact four.2.1 | exact four.2.2.1 | exact four.2.2.2
              case h3 => first | exact four.1 | exact four.2.1 | exact four.2.2.1 | exact four.2.2.2
              case h4 => first | exact four.1 | exact four.2.1 | exact four.2.2.1 | exact four.2.2.2
              case h5 => have := hb1.out.size; omega
              case h6 => omega
              case h7 => omega
              case h8 => omega
              case h9 => exact (four_below hb1.out).drew
      · simp only [List.getElem_toArray, List.getElem_cons_zero, List.getElem_cons_succ]
        go_simp
        refine hK _ _ ?_
        clear hK K
        as_aux_lemma =>
        try simp only [Act.put, List.getElem_toArray, List.getElem_cons_zero, List.getElem_cons_succ, List.setIfInBounds_toArray, List.set_cons_zero, List.set_cons_succ]
        refine wpAny_ready (rs := [1, 7]) (by kernel_rfl) (by simp) ?_
        refine AllReady.cons rfl (fun K hK => ?_) (AllReady.cons rfl (fun K hK => ?_) AllReady.nil)
        · simp only [List.getElem_toArray, List.getElem_cons_zero, List.getElem_cons_succ]
          go_simp
          refine hK _ _ ?_
          clear hK K
          try simp only [Act.put, List.getElem_toArray, List.getElem_cons_zero, List.getElem_cons_succ, List.setIfInBounds_toArray, List.set_cons_zero, List.set_cons_succ]
          refine wpAny_take (i := 6) (v := ?_) rfl (by kernel_rfl) (by kernel_rfl) (by kernel_rfl) (fun _ _ _ h => h) (Or.inl ⟨by rfl, ?_⟩) ?_
          rotate_left
          · (intro w; go_simp; (try with_reducible rfl))
          try simp only [Act.put, List.getElem_toArray, List.getElem_cons_zero, List.getElem_cons_succ, List.setIfInBounds_toArray, List.set_cons_zero, List.set_cons_succ]
          refine wpAny_ready (rs := [7]) (by kernel_rfl) (by simp) ?_
          refine AllReady.cons rfl (fun K hK => ?_) AllReady.nil
          · simp only [List.getElem_toArray, List.getElem_cons_zero, List.getElem_cons_succ]
            go_simp
            refine hK _ _ ?_
            clear hK K
            try simp only [Act.put, List.getElem_toArray, List.getElem_cons_zero, List.getElem_cons_succ, List.setIfInBounds_toArray, List.set_cons_zero, List.set_cons_succ]
            refine wpAny_ready (rs := [8]) (by kernel_rfl) (by simp) ?_
            refine AllReady.cons rfl (fun K hK => ?_) AllReady.nil
            · simp only [List.getElem_toArray, List.getElem_cons_zero, List.getElem_cons_succ]
              go_simp
              refine hK _ _ ?_
              clear hK K
              try simp only [Act.put, List.getElem_toArray, List.getElem_cons_zero, List.getElem_cons_succ, List.setIfInBounds_toArray, List.set_cons_zero, List.set_cons_succ]
              refine wpAny_done (by kernel_rfl) ?_ _
              go_wp2
              go_meet
              apply many_rel rfl
              case h1 => first | exact four.1 | exact four.2.1 | exact four.2.2.1 | exact four.2.2.2
              case h2 => first | exact four.1 | exact four.2.1 | exact four.2.2.1 | exact four.2.2.2
              case h3 => first | exact four.1 | exact four.2.1 | exact four.2.2.1 | exact four.2.2.2
              case h4 => first | exact four.1 | exact four.2.1 | exact four.2.2.1 | exact four.2.2.2
              case h5 => have := hb1.out.size; omega
              case h6 => omega
              case h7 => omega
              case h8 => omega
              case h9 => exact (four_below hb1.out).drew
        · simp only [List.getElem_toArray, List.getElem_cons_zero, List.getElem_cons_succ]
          go_simp
          refine hK _ _ ?_
          clear hK K
          try simp only [Act.put, List.getElem_toArray, List.getElem_cons_zero, List.getElem_cons_succ, List.setIfInBounds_toArray, List.set_cons_zero, List.set_cons_succ]
          refine wpAny_ready (rs := [1]) (by kernel_rfl) (by simp) ?_
          refine AllReady.cons rfl (fun K hK => ?_) AllReady.nil
          · simp only [List.getElem_toArray, List.getElem_cons_zero, List.getElem_cons_succ]
            go_simp
            refine hK _ _ ?_
            clear hK K
            try simp only [Act.put, List.getElem_toArray, List.getElem_cons_zero, List.getElem_cons_succ, List.setIfInBounds_toArray, List.set_cons_zero, List.set_cons_succ]
            refine wpAny_take (i := 6) (v := ?_) rfl (by kernel_rfl) (by kernel_rfl) (by kernel_rfl) (fun _ _ _ h => h) (Or.inl ⟨by rfl, ?_⟩) ?_
            rotate_left
            · (intro w; go_simp; (try with_reducible rfl))
            try simp only [Act.put, List.getElem_toArray, List.getElem_cons_zero, List.getElem_cons_succ, List.setIfInBounds_toArray, List.set_cons_zero, List.set_cons_succ]
            refine wpAny_ready (rs := [8]) (by kernel_rfl) (by simp) ?_
            refine AllReady.cons rfl (fun K hK => ?_) AllReady.nil
            · simp only [List.getElem_toArray, List.getElem_cons_zero, List.getElem_cons_succ]
              go_simp
              refine hK _ _ ?_
              clear hK K
              try simp only [Act.put, List.getElem_toArray, List.getElem_cons_zero, List.getElem_cons_succ, List.setIfInBounds_toArray, List.set_cons_zero, List.set_cons_succ]
              refine wpAny_done (by kernel_rfl) ?_ _
              go_wp2
              go_meet
              apply many_rel rfl
              case h1 => first | exact four.1 | exact four.2.1 | exact four.2.2.1 | exact four.2.2.2
              case h2 => first | exact four.1 | exact four.2.1 | exact four.2.2.1 | exact four.2.2.2
              case h3 => first | exact four.1 | exact four.2.1 | exact four.2.2.1 | exact four.2.2.2
              case h4 => first | exact four.1 | exact four.2.1 | exact four.2.2.1 | exact four.2.2.2
              case h5 => have := hb1.out.size; omega
              case h6 => omega
              case h7 => omega
              case h8 => omega
              case h9 => exact (four_below hb1.out).drew
      · simp only [List.getElem_toArray, List.getElem_cons_zero, List.getElem_cons_succ]
        go_simp
        refine hK _ _ ?_
        clear hK K
        as_aux_lemma =>
        try simp only [Act.put, List.getElem_toArray, List.getElem_cons_zero, List.getElem_cons_succ, List.setIfInBounds_toArray, List.set_cons_zero, List.set_cons_succ]
        refine wpAny_ready (rs := [1, 3]) (by kernel_rfl) (by simp) ?_
        refine AllReady.cons rfl (fun K hK => ?_) (AllReady.cons rfl (fun K hK => ?_) AllReady.nil)
        · simp only [List.getElem_toArray, List.getElem_cons_zero, List.getElem_cons_succ]
          go_simp
          refine hK _ _ ?_
          clear hK K
          try simp only [Act.put, List.getElem_toArray, List.getElem_cons_zero, List.getElem_cons_succ, List.setIfInBounds_toArray, List.set_cons_zero, List.set_cons_succ]
          refine wpAny_ready (rs := [3]) (by kernel_rfl) (by simp) ?_
          refine AllReady.cons rfl (fun K hK => ?_) AllReady.nil
          · simp only [List.getElem_toArray, List.getElem_cons_zero, List.getElem_cons_succ]
            go_simp
            refine hK _ _ ?_
            clear hK K
            try simp only [Act.put, List.getElem_toArray, List.getElem_cons_zero, List.getElem_cons_succ, List.setIfInBounds_toArray, List.set_cons_zero, List.set_cons_succ]
            refine wpAny_take (i := 6) (v := ?_) rfl (by kernel_rfl) (by kernel_rfl) (by kernel_rfl) (fun _ _ _ h => h) (Or.inl ⟨by rfl, ?_⟩) ?_
            rotate_left
            · (intro w; go_simp; (try with_reducible rfl))
            try simp only [Act.put, List.getElem_toArray, List.getElem_cons_zero, List.getElem_cons_succ, List.setIfInBounds_toArray, List.set_cons_zero, List.set_cons_succ]
            refine wpAny_ready (rs := [8]) (by kernel_rfl) (by simp) ?_
            refine AllReady.cons rfl (fun K hK => ?_) AllReady.nil
            · simp only [List.getElem_toArray, List.getElem_cons_zero, List.getElem_cons_succ]
              go_simp
              refine hK _ _ ?_
              clear hK K
              try simp only [Act.put, List.getElem_toArray, List.getElem_cons_zero, List.getElem_cons_succ, List.setIfInBounds_toArray, List.set_cons_zero, List.set_cons_succ]
              refine wpAny_done (by kernel_rfl) ?_ _
              go_wp2
              go_meet
              apply many_rel rfl
              case h1 => first | exact four.1 | exact four.2.1 | exact four.2.2.1 | exact four.2.2.2
              case h2 => first | exact four.1 | exact four.2.1 | exact four.2.2.1 | exact four.2.2.2
              case h3 => first | exact four.1 | exact four.2.1 | exact four.2.2.1 | exact four.2.2.2
              case h4 => first | exact four.1 | exact four.2.1 | exact four.2.2.1 | exact four.2.2.2
              case h5 => have := hb1.out.size; omega
              case h6 => omega
              case h7 => omega
              case h8 => omega
              case h9 => exact (four_below hb1.out).drew
        · simp only [List.getElem_toArray, List.getElem_cons_zero, List.getElem_cons_succ]
          go_simp
          refine hK _ _ ?_
          clear hK K
          try simp only [Act.put, List.getElem_toArray, List.getElem_cons_zero, List.getElem_cons_succ, List.setIfInBounds_toArray, List.set_cons_zero, List.set_cons_succ]
          refine wpAny_ready (rs := [1]) (by kernel_rfl) (by simp) ?_
          refine AllReady.cons rfl (fun K hK => ?_) AllReady.nil
          · simp only [List.getElem_toArray, List.getElem_cons_zero, List.getElem_cons_succ]
            go_simp
            refine hK _ _ ?_
            clear hK K
            try simp only [Act.put, List.getElem_toArray, List.getElem_cons_zero, List.getElem_cons_succ, List.setIfInBounds_toArray, List.set_cons_zero, List.set_cons_succ]
            refine wpAny_take (i := 6) (v := ?_) rfl (by kernel_rfl) (by kernel_rfl) (by kernel_rfl) (fun _ _ _ h => h) (Or.inl ⟨by rfl, ?_⟩) ?_
            rotate_left
            · (intro w; go_simp; (try with_reducible rfl))
            try simp only [Act.put, List.getElem_toArray, List.getElem_cons_zero, List.getElem_cons_succ, List.setIfInBounds_toArray, List.set_cons_zero, List.set_cons_succ]
            refine wpAny_ready (rs := [8]) (by kernel_rfl) (by simp) ?_
            refine AllReady.cons rfl (fun K hK => ?_) AllReady.nil
            · simp only [List.getElem_toArray, List.getElem_cons_zero, List.getElem_cons_succ]
              go_simp
              refine hK _ _ ?_
              clear hK K
              try simp only [Act.put, List.getElem_toArray, List.getElem_cons_zero, List.getElem_cons_succ, List.setIfInBounds_toArray, List.set_cons_zero, List.set_cons_succ]
              refine wpAny_done (by kernel_rfl) ?_ _
              go_wp2
              go_meet
              apply many_rel rfl
              case h1 => first | exact four.1 | exact four.2.1 | exact four.2.2.1 | exact four.2.2.2
              case h2 => first | exact four.1 | exact four.2.1 | exact four.2.2.1 | exact four.2.2.2
              case h3 => first | exact four.1 | exact four.2.1 | exact four.2.2.1 | exact four.2.2.2
              case h4 => first | exact four.1 | exact four.2.1 | exact four.2.2.1 | exact four.2.2.2
              case h5 => have := hb1.out.size; omega
              case h6 => omega
              case h7 => omega
              case h8 => omega
              case h9 => exact (four_below hb1.out).drew
    · simp only [List.getElem_toArray, List.getElem_cons_zero, List.getElem_cons_succ]
      go_simp
      refine hK _ _ ?_
      clear hK K
      as_aux_lemma =>
      try simp only [Act.put, List.getElem_toArray, List.getElem_cons_zero, List.getElem_cons_succ, List.setIfInBounds_toArray, List.set_cons_zero, List.set_cons_succ]
      refine wpAny_ready (rs := [1, 3, 5]) (by kernel_rfl) (by simp) ?_
      refine AllReady.cons rfl (fun K hK => ?_) (AllReady.cons rfl (fun K hK => ?_) (AllReady.cons rfl (fun K hK => ?_) AllReady.nil))
      · simp only [List.getElem_toArray, List.getElem_cons_zero, List.getElem_cons_succ]
        go_simp
        refine hK _ _ ?_
        clear hK K
        as_aux_lemma =>
        try simp only [Act.put, List.getElem_toArray, List.getElem_cons_zero, List.getElem_cons_succ, List.setIfInBounds_toArray, List.set_cons_zero, List.set_cons_succ]
        refine wpAny_ready (rs := [3, 5]) (by kernel_rfl) (by simp) ?_
        refine AllReady.cons rfl (fun K hK => ?_) (AllReady.cons rfl (fun K hK => ?_) AllReady.nil)
        · simp only [List.getElem_toArray, List.getElem_cons_zero, List.getElem_cons_succ]
          go_simp
          refine hK _ _ ?_
          clear hK K
          try simp only [Act.put, List.getElem_toArray, List.getElem_cons_zero, List.getElem_cons_succ, List.setIfInBounds_toArray, List.set_cons_zero, List.set_cons_succ]
          refine wpAny_ready (rs := [5]) (by kernel_rfl) (by simp) ?_
          refine AllReady.cons rfl (fun K hK => ?_) AllReady.nil
          · simp only [List.getElem_toArray, List.getElem_cons_zero, List.getElem_cons_succ]
            go_simp
            refine hK _ _ ?_
            clear hK K
            try simp only [Act.put, List.getElem_toArray, List.getElem_cons_zero, List.getElem_cons_succ, List.setIfInBounds_toArray, List.set_cons_zero, List.set_cons_succ]
            refine wpAny_take (i := 6) (v := ?_) rfl (by kernel_rfl) (by kernel_rfl) (by kernel_rfl) (fun _ _ _ h => h) (Or.inl ⟨by rfl, ?_⟩) ?_
            rotate_left
            · (intro w; go_simp; (try with_reducible rfl))
            try simp only [Act.put, List.getElem_toArray, List.getElem_cons_zero, List.getElem_cons_succ, List.setIfInBounds_toArray, List.set_cons_zero, List.set_cons_succ]
            refine wpAny_ready (rs := [8]) (by kernel_rfl) (by simp) ?_
            refine AllReady.cons rfl (fun K hK => ?_) AllReady.nil
            · simp only [List.getElem_toArray, List.getElem_cons_zero, List.getElem_cons_succ]
              go_simp
              refine hK _ _ ?_
              clear hK K
              try simp only [Act.put, List.getElem_toArray, List.getElem_cons_zero, List.getElem_cons_succ, List.setIfInBounds_toArray, List.set_cons_zero, List.set_cons_succ]
              refine wpAny_done (by kernel_rfl) ?_ _
              go_wp2
              go_meet
              apply many_rel rfl
              case h1 => first | exact four.1 | exact four.2.1 | exact four.2.2.1 | exact four.2.2.2
              case h2 => first | exact four.1 | exact four.2.1 | exact four.2.2.1 | exact four.2.2.2
              case h3 => first | exact four.1 | exact four.2.1 | exact four.2.2.1 | exact four.2.2.2
              case h4 => first | exact four.1 | exact four.2.1 | exact four.2.2.1 | exact four.2.2.2
              case h5 => have := hb1.out.size; omega
              case h6 => omega
              case h7 => omega
              case h8 => omega
              case h9 => exact (four_below hb1.out).drew
        · simp only [List.getElem_toArray, List.getElem_cons_zero, List.getElem_cons_succ]
          go_simp
          refine hK _ _ ?_
          clear hK K
          try simp only [Act.put, List.getElem_toArray, List.getElem_cons_zero, List.getElem_cons_succ, List.setIfInBounds_toArray, List.set_cons_zero, List.set_cons_succ]
          refine wpAny_ready (rs := [3]) (by kernel_rfl) (by simp) ?_
          refine AllReady.cons rfl (fun K hK => ?_) AllReady.nil
          · simp only [List.getElem_toArray, List.getElem_cons_zero, List.getElem_cons_succ]
            go_simp
            refine hK _ _ ?_
            clear hK K
            try simp only [Act.put, List.getElem_toArray, List.getElem_cons_zero, List.getElem_cons_succ, List.setIfInBounds_toArray, List.set_cons_zero, List.set_cons_succ]
            refine wpAny_take (i := 6) (v := ?_) rfl (by kernel_rfl) (by kernel_rfl) (by kernel_rfl) (fun _ _ _ h => h) (Or.inl ⟨by rfl, ?_⟩) ?_
            rotate_left
            · (intro w; go_simp; (try with_reducible rfl))
            try simp only [Act.put, List.getElem_toArray, List.getElem_cons_zero, List.getElem_cons_succ, List.setIfInBounds_toArray, List.set_cons_zero, List.set_cons_succ]
            refine wpAny_ready (rs := [8]) (by kernel_rfl) (by simp) ?_
            refine AllReady.cons rfl (fun K hK => ?_) AllReady.nil
            · simp only [List.getElem_toArray, List.getElem_cons_zero, List.getElem_cons_succ]
              go_simp
              refine hK _ _ ?_
              clear hK K
              try simp only [Act.put, List.getElem_toArray, List.getElem_cons_zero, List.getElem_cons_succ, List.setIfInBounds_toArray, List.set_cons_zero, List.set_cons_succ]
              refine wpAny_done (by kernel_rfl) ?_ _
              go_wp2
              go_meet
              apply many_rel rfl
              case h1 => first | exact four.1 | exact four.2.1 | exact four.2.2.1 | exact four.2.2.2
              case h2 => first | exact four.1 | exact four.2.1 | exact four.2.2.1 | exact four.2.2.2
              case h3 => first | exact four.1 | exact four.2.1 | exact four.2.2.1 | exact four.2.2.2
              case h4 => first | exact four.1 | exact four.2.1 | exact four.2.2.1 | exact four.2.2.2
              case h5 => have := hb1.out.size; omega
              case h6 => omega
              case h7 => omega
              case h8 => omega
              case h9 => exact (four_below hb1.out).drew
      · simp only [List.getElem_toArray, List.getElem_cons_zero, List.getElem_cons_succ]
        go_simp
        refine hK _ _ ?_
        clear hK K
        as_aux_lemma =>
        try simp only [Act.put, List.getElem_toArray, List.getElem_cons_zero, List.getElem_cons_succ, List.setIfInBounds_toArray, List.set_cons_zero, List.set_cons_succ]
        refine wpAny_ready (rs := [1, 5]) (by kernel_rfl) (by simp) ?_
        refine AllReady.cons rfl (fun K hK => ?_) (AllReady.cons rfl (fun K hK => ?_) AllReady.nil)
        · simp only [List.getElem_toArray, List.getElem_cons_zero, List.getElem_cons_succ]
          go_simp
          refine hK _ _ ?_
          clear hK K
          try simp only [Act.put, List.getElem_toArray, List.getElem_cons_zero, List.getElem_cons_succ, List.setIfInBounds_toArray, List.set_cons_zero, List.set_cons_succ]
          refine wpAny_ready (rs := [5]) (by kernel_rfl) (by simp) ?_
          refine AllReady.cons rfl (fun K hK => ?_) AllReady.nil
          · simp only [List.getElem_toArray, List.getElem_cons_zero, List.getElem_cons_succ]
            go_simp
            refine hK _ _ ?_
            clear hK K
            try simp only [Act.put, List.getElem_toArray, List.getElem_cons_zero, List.getElem_cons_succ, List.setIfInBounds_toArray, List.set_cons_zero, List.set_cons_succ]
            refine wpAny_take (i := 6) (v := ?_) rfl (by kernel_rfl) (by kernel_rfl) (by kernel_rfl) (fun _ _ _ h => h) (Or.inl ⟨by rfl, ?_⟩) ?_
            rotate_left
            · (intro w; go_simp; (try with_reducible rfl))
            try simp only [Act.put, List.getElem_toArray, List.getElem_cons_zero, List.getElem_cons_succ, List.setIfInBounds_toArray, List.set_cons_zero, List.set_cons_succ]
            refine wpAny_ready (rs := [8]) (by kernel_rfl) (by simp) ?_
            refine AllReady.cons rfl (fun K hK => ?_) AllReady.nil
            · simp only [List.getElem_toArray, List.getElem_cons_zero, List.getElem_cons_succ]
              go_simp
              refine hK _ _ ?_
              clear hK K
              try simp only [Act.put, List.getElem_toArray, List.getElem_cons_zero, List.getElem_cons_succ, List.setIfInBounds_toArray, List.set_cons_zero, List.set_cons_succ]
              refine wpAny_done (by kernel_rfl) ?_ _
              go_wp2
              go_meet
              apply many_rel rfl
              case h1 => first | exact four.1 | exact four.2.1 | exact four.2.2.1 | exact four.2.2.2
              case h2 => first | exact four.1 | exact four.2.1 | exact four.2.2.1 | exact four.2.2.2
              case h3 => first | exact four.1 | exact four.2.1 | exact four.2.2.1 | exact four.2.2.2
              case h4 => first | exact four.1 | exact four.2.1 | exact four.2.2.1 | exact four.2.2.2
              case h5 => have := hb1.out.size; omega
              case h6 => omega
              case h7 => omega
              case h8 => omega
              case h9 => exact (four_below hb1.out).drew
        · simp only [List.getElem_toArray, List.getElem_cons_zero, List.getElem_cons_succ]
          go_simp
          refine hK _ _ ?_
          clear hK K
          try simp only [Act.put, List.getElem_toArray, List.getElem_cons_zero, List.getElem_cons_succ, List.setIfInBounds_toArray, List.set_cons_zero, List.set_cons_succ]
          refine wpAny_ready (rs := [1]) (by kernel_rfl) (by simp) ?_
          refine AllReady.cons rfl (fun K hK => ?_) AllReady.nil
          · simp only [List.getElem_toArray, List.getElem_cons_zero, List.getElem_cons_succ]
            go_simp
            refine hK _ _ ?_
            clear hK K
            try simp only [Act.put, List.getElem_toArray, List.getElem_cons_zero, List.getElem_cons_succ, List.setIfInBounds_toArray, List.set_cons_zero, List.set_cons_succ]
            refine wpAny_take (i := 6) (v := ?_) rfl (by kernel_rfl) (by kernel_rfl) (by kernel_rfl) (fun _ _ _ h => h) (Or.inl ⟨by rfl, ?_⟩) ?_
            rotate_left
            · (intro w; go_simp; (try with_reducible rfl))
            try simp only [Act.put, List.getElem_toArray, List.getElem_cons_zero, List.getElem_cons_succ, List.setIfInBounds_toArray, List.set_cons_zero, List.set_cons_succ]
            refine wpAny_ready (rs := [8]) (by kernel_rfl) (by simp) ?_
            refine AllReady.cons rfl (fun K hK => ?_) AllReady.nil
            · simp only [List.getElem_toArray, List.getElem_cons_zero, List.getElem_cons_succ]
              go_simp
              refine hK _ _ ?_
              clear hK K
              try simp only [Act.put, List.getElem_toArray, List.getElem_cons_zero, List.getElem_cons_succ, List.setIfInBounds_toArray, List.set_cons_zero, List.set_cons_succ]
              refine wpAny_done (by kernel_rfl) ?_ _
              go_wp2
              go_meet
              apply many_rel rfl
              case h1 => first | exact four.1 | exact four.2.1 | exact four.2.2.1 | exact four.2.2.2
              case h2 => first | exact four.1 | exact four.2.1 | exact four.2.2.1 | exact four.2.2.2
              case h3 => first | exact four.1 | exact four.2.1 | exact four.2.2.1 | exact four.2.2.2
              case h4 => first | exact four.1 | exact four.2.1 | exact four.2.2.1 | exact four.2.2.2
              case h5 => have := hb1.out.size; omega
              case h6 => omega
              case h7 => omega
              case h8 => omega
              case h9 => exact (four_below hb1.out).drew
      · simp only [List.getElem_toArray, List.getElem_cons_zero, List.getElem_cons_succ]
        go_simp
        refine hK _ _ ?_
        clear hK K
        as_aux_lemma =>
        try simp only [Act.put, List.getElem_toArray, List.getElem_cons_zero, List.getElem_cons_succ, List.setIfInBounds_toArray, List.set_cons_zero, List.set_cons_succ]
        refine wpAny_ready (rs := [1, 3]) (by kernel_rfl) (by simp) ?_
        refine AllReady.cons rfl (fun K hK => ?_) (AllReady.cons rfl (fun K hK => ?_) AllReady.nil)
        · simp only [List.getElem_toArray, List.getElem_cons_zero, List.getElem_cons_succ]
          go_simp
          refine hK _ _ ?_
          clear hK K
          try simp only [Act.put, List.getElem_toArray, List.getElem_cons_zero, List.getElem_cons_succ, List.setIfInBounds_toArray, List.set_cons_zero, List.set_cons_succ]
          refine wpAny_ready (rs := [3]) (by kernel_rfl) (by simp) ?_
          refine AllReady.cons rfl (fun K hK => ?_) AllReady.nil
          · simp only [List.getElem_toArray, List.getElem_cons_zero, List.getElem_cons_succ]
            go_simp
            refine hK _ _ ?_
            clear hK K
            try simp only [Act.put, List.getElem_toArray, List.getElem_cons_zero, List.getElem_cons_succ, List.setIfInBounds_toArray, List.set_cons_zero, List.set_cons_succ]
            refine wpAny_take (i := 6) (v := ?_) rfl (by kernel_rfl) (by kernel_rfl) (by kernel_rfl) (fun _ _ _ h => h) (Or.inl ⟨by rfl, ?_⟩) ?_
            rotate_left
            · (intro w; go_simp; (try with_reducible rfl))
            try simp only [Act.put, List.getElem_toArray, List.getElem_cons_zero, List.getElem_cons_succ, List.setIfInBounds_toArray, List.set_cons_zero, List.set_cons_succ]
            refine wpAny_ready (rs := [8]) (by kernel_rfl) (by simp) ?_
            refine AllReady.cons rfl (fun K hK => ?_) AllReady.nil
            · simp only [List.getElem_toArray, List.getElem_cons_zero, List.getElem_cons_succ]
              go_simp
              refine hK _ _ ?_
              clear hK K
              try simp only [Act.put, List.getElem_toArray, List.getElem_cons_zero, List.getElem_cons_succ, List.setIfInBounds_toArray, List.set_cons_zero, List.set_cons_succ]
              refine wpAny_done (by kernel_rfl) ?_ _
              go_wp2
              go_meet
              apply many_rel rfl
              case h1 => first | exact four.1 | exact four.2.1 | exact four.2.2.1 | exact four.2.2.2
              case h2 => first | exact four.1 | exact four.2.1 | exact four.2.2.1 | exact four.2.2.2
              case h3 => first | exact four.1 | exact four.2.1 | exact four.2.2.1 | exact four.2.2.2
              case h4 => first | exact four.1 | exact four.2.1 | exact four.2.2.1 | exact four.2.2.2
              case h5 => have := hb1.out.size; omega
              case h6 => omega
              case h7 => omega
              case h8 => omega
              case h9 => exact (four_below hb1.out).drew
        · simp only [List.getElem_toArray, List.getElem_cons_zero, List.getElem_cons_succ]
          go_simp
          refine hK _ _ ?_
          clear hK K
          try simp only [Act.put, List.getElem_toArray, List.getElem_cons_zero, List.getElem_cons_succ, List.setIfInBounds_toArray, List.set_cons_zero, List.set_cons_succ]
          refine wpAny_ready (rs := [1]) (by kernel_rfl) (by simp) ?_
          refine AllReady.cons rfl (fun K hK => ?_) AllReady.nil
          · simp only [List.getElem_toArray, List.getElem_cons_zero, List.getElem_cons_succ]
            go_simp
            refine hK _ _ ?_
            clear hK K
            try simp only [Act.put, List.getElem_toArray, List.getElem_cons_zero, List.getElem_cons_succ, List.setIfInBounds_toArray, List.set_cons_zero, List.set_cons_succ]
            refine wpAny_take (i := 6) (v := ?_) rfl (by kernel_rfl) (by kernel_rfl) (by kernel_rfl) (fun _ _ _ h => h) (Or.inl ⟨by rfl, ?_⟩) ?_
            rotate_left
            · (intro w; go_simp; (try with_reducible rfl))
            try simp only [Act.put, List.getElem_toArray, List.getElem_cons_zero, List.getElem_cons_succ, List.setIfInBounds_toArray, List.set_cons_zero, List.set_cons_succ]
            refine wpAny_ready (rs := [8]) (by kernel_rfl) (by simp) ?_
            refine AllReady.cons rfl (fun K hK => ?_) AllReady.nil
            · simp only [List.getElem_toArray, List.getElem_cons_zero, List.getElem_cons_succ]
              go_simp
              refine hK _ _ ?_
              clear hK K
              try simp only [Act.put, List.getElem_toArray, List.getElem_cons_zero, List.getElem_cons_succ, List.setIfInBounds_toArray, List.set_cons_zero, List.set_cons_succ]
              refine wpAny_done (by kernel_rfl) ?_ _
              go_wp2
              go_meet
              apply many_rel rfl
              case h1 => first | exact four.1 | exact four.2.1 | exact four.2.2.1 | exact four.2.2.2
              case h2 => first | exact four.1 | exact four.2.1 | exact four.2.2.1 | exact four.2.2.2
              case h3 => first | exact four.1 | exact four.2.1 | exact four.2.2.1 | exact four.2.2.2
              case h4 => first | exact four.1 | exact four.2.1 | exact four.2.2.1 | exact four.2.2.2
              case h5 => have := hb1.out.size; omega
              case h6 => omega
              case h7 => omega
              case h8 => omega
              case h9 => exact (four_below hb1.out).drew
  case rest =>
  obtain ⟨X, p, q, s, rfl, hI⟩ := hcut
  obtain ⟨g1, g2, g3, g4, g5, g6, g7, g8, g9⟩ := hI.out
  clear hI
  have l1 := lt_of g1
  have l2 := lt_of g2
  have l3 := lt_of g3
  have l4 := lt_of g4
  have hst : ML w wc wc X p q s a c d (.slice none 0 0) 0 := ⟨g1, g2, g3, g4, World.ownsRow_nil _ _ _ _, g9, Nat.le_refl _⟩
  have hws := g9.size
  obtain ⟨ii, hi0, hz0, hz1, hz2⟩ := info_parts infoPat
  replace hst := Lib.hid hst
  clear g1 g2 g3 g4 g9 m1 m2 m3
  go_wp2
  go_loopw [10] (fun i wr => ∃ (k : Nat) (vt : Value), k ≤ n ∧ i = .int .i64 k ∧ Aside (ML w wc wr X p q s a c d vt k)) (fun i _ => n - (intOf i).toNat)
  case atStart => exact ⟨0, _, Nat.zero_le _, rfl, hst.out⟩
  case round =>
    obtain ⟨k, vt, hk, rfl, hI⟩ := hrel
    have hM := hI.out
    clear hI
    obtain ⟨av, lv, cv, rfl, hlv⟩ := own_form hM.row
    subst lv
    have hsz := hM.sz
    have hxx := hM.x
    have xc : wr.cell? ⟨X, 11, none⟩ = some (.slice av k cv) := cell_of hxx rfl
    by_cases hlt : k < n
    · have hkn : (k : Int) < n := by omega
      have o3 := Lib.hid hM.row
      replace hM := Lib.hid hM
      replace hxx := Lib.hid hxx
      go_wp2_with (at_builtin; refine wpList_append_own' rfl (.tmp 61) (.tmp 64) 25 rfl wc.heap.size 39 ii (.agg #[.int .i64 0, .int .i64 0, .string ByteArray.empty]) 3 32 Tryd.underlying25 hi0 hz0 hz1 hz2 rfl (by decide) _ _ _ rfl (o3.out.alloc _) ⟨wr.heap.size, 0, none⟩ 1 1 (patcells [⟨(k : Int), 0, [112]⟩]) rfl rfl (new_three _ rfl) (by intro u hu; simp [patcells] at hu; rcases hu with rfl | rfl | rfl <;> rfl) (by unfold maxLen; omega) (by omega) (by simp; omega) ?_; intro v6 w6 hown6 hgrow6 hrow6; have hc6 : Chg (fun j => (Value.slice av k cv).ownBlock = some j) wr w6 := ((Chg.refl _ wr).alloc _).grown hgrow6 (fun j _ e => e); obtain ⟨a6, l6, c6, rfl, hl6⟩ := own_form hown6; subst hl6; have hS := hM.out.step g5 ⟨l1, l2, l3, l4⟩ ⟨g6, g7, g8⟩ hws hc6 (by rw [patN_succ, patcells_append]; exact hown6); have xc6 : w6.cell? ⟨X, 11, none⟩ = some (.slice av k cv) := cell_of hS.1 rfl; have xf6 : w6.frozen? ⟨X, 11, none⟩ = false := free_of hS.1; replace hS := Lib.hid hS.2; clear hc6 hown6 hgrow6 hrow6)
      go_roundw
      case rel => exact ⟨k + 1, _, hlt, by go_num, hS.out⟩
      case measure => simp [intOf]; omega
    · obtain rfl : k = n := by omega
      have hkn : ¬ (k : Int) < k := by omega
      have hR : RecAt wr (.agg #[.int .i64 7, .int .i64 0, .int .i64 0, .int .i64 0, .string ⟨#[]⟩, .bool false, .string ⟨#[]⟩, .string ⟨#[]⟩, .int .i64 0, .int .i64 0, .slice (some ⟨p, 0, none⟩) a a, .slice av k cv, .slice (some ⟨q, 0, none⟩) c c, .slice (some ⟨s, 0, none⟩) d d]) _ _ _ _ (rMany a k c d) := ⟨rfl, isI_made a hM.i, isP_of_row (by show wr.ownsRow _ _ _ _ (patN k).length _; rw [patN_length]; exact hM.row), isT_made c hM.t, isD_made d hM.d⟩
      have hbw := Lib.hid hM.bel
      have cP := put_any _ _ _ _ _ (rMany a k c d) wr (hT.more hM.bel) hR
      obtain ⟨⟨f0, f1, f2, f3, f4, f5, f6⟩, ⟨f7, f8, f9, f10, f11, f12, f13⟩, fl⟩ := rec_cells hM.x
      replace hM := Lib.hid hM
      replace hxx := Lib.hid hxx
      replace hR := Lib.hid hR
      clear hst
      by_cases e0 : (a : Int) ≤ 64
      case neg =>
        have y0 : decide ((a : Int) ≤ 64) = false := decide_eq_false e0
        have hok : recOk (rMany a k c d) = false := by rw [many_ok a k c d hn]; simp; omega
        rw [hok] at cP
        replace cP := Lib.hid cP
        replace hok := Lib.hid hok
        go_wp2_with fail
        refine cP.out.mono ?_
        rintro e w6 ⟨rfl, hb6⟩
        have hR6 := hR.out.more hb6
        have hx6 := (Chg.of_below (S := fun _ => False) hb6).heap hxx.out id
        obtain ⟨⟨d0, d1, d2, d3, d4, d5, d6⟩, ⟨d7, d8, d9, d10, d11, d12, d13⟩, hl9⟩ := rec_cells hx6
        have cT := touches_any _ _ _ _ _ _ w6 hR6 (by show (patN k).length ≤ 1000000; rw [patN_length]; omega)
        have hbF := Lib.hid (hbw.out.trans (hb6.mono hbw.out.size))
        replace cT := Lib.hid cT
        replace hx6 := Lib.hid hx6
        clear hR6 hb6 cP
        go_wp2_with fail
        refine cT.out.mono ?_
        rintro e w7 ⟨u, rfl, ho, hb7⟩
        obtain ⟨au, lu, cu, rfl, hlu⟩ := own_form ho
        subst lu
        have htl : (touch (rMany a k c d).pats).length = k := touch_many k
        have hbG := Lib.hid (hbF.out.trans (hb7.mono hbF.out.size))
        rw [htl]
        replace htl := Lib.hid htl
        clear ho hb7
        have hkk : ((k : Int) == k) = true := beq_self_eq_true _
        go_wp2
        go_ret
        exact ⟨rfl, hbG.out⟩
      have y0 : decide ((a : Int) ≤ 64) = true := decide_eq_true e0
      by_cases e1 : (k : Int) ≤ 40
      case neg =>
        have y1 : decide ((k : Int) ≤ 40) = false := decide_eq_false e1
        have hok : recOk (rMany a k c d) = false := by rw [many_ok a k c d hn]; simp; omega
        rw [hok] at cP
        replace cP := Lib.hid cP
        replace hok := Lib.hid hok
        go_wp2_with fail
        refine cP.out.mono ?_
        rintro e w6 ⟨rfl, hb6⟩
        have hR6 := hR.out.more hb6
        have hx6 := (Chg.of_below (S := fun _ => False) hb6).heap hxx.out id
        obtain ⟨⟨d0, d1, d2, d3, d4, d5, d6⟩, ⟨d7, d8, d9, d10, d11, d12, d13⟩, hl9⟩ := rec_cells hx6
        have cT := touches_any _ _ _ _ _ _ w6 hR6 (by show (patN k).length ≤ 1000000; rw [patN_length]; omega)
        have hbF := Lib.hid (hbw.out.trans (hb6.mono hbw.out.size))
        replace cT := Lib.hid cT
        replace hx6 := Lib.hid hx6
        clear hR6 hb6 cP
        go_wp2_with fail
        refine cT.out.mono ?_
        rintro e w7 ⟨u, rfl, ho, hb7⟩
        obtain ⟨au, lu, cu, rfl, hlu⟩ := own_form ho
        subst lu
        have htl : (touch (rMany a k c d).pats).length = k := touch_many k
        have hbG := Lib.hid (hbF.out.trans (hb7.mono hbF.out.size))
        rw [htl]
        replace htl := Lib.hid htl
        clear ho hb7
        have hkk : ((k : Int) == k) = true := beq_self_eq_true _
        go_wp2
        go_ret
        exact ⟨rfl, hbG.out⟩
      have y1 : decide ((k : Int) ≤ 40) = true := decide_eq_true e1
      by_cases e2 : (c : Int) ≤ 8
      case neg =>
        have y2 : decide ((c : Int) ≤ 8) = false := decide_eq_false e2
        have hok : recOk (rMany a k c d) = false := by rw [many_ok a k c d hn]; simp; omega
        rw [hok] at cP
        replace cP := Lib.hid cP
        replace hok := Lib.hid hok
        go_wp2_with fail
        refine cP.out.mono ?_
        rintro e w6 ⟨rfl, hb6⟩
        have hR6 := hR.out.more hb6
        have hx6 := (Chg.of_below (S := fun _ => False) hb6).heap hxx.out id
        obtain ⟨⟨d0, d1, d2, d3, d4, d5, d6⟩, ⟨d7, d8, d9, d10, d11, d12, d13⟩, hl9⟩ := rec_cells hx6
        have cT := touches_any _ _ _ _ _ _ w6 hR6 (by show (patN k).length ≤ 1000000; rw [patN_length]; omega)
        have hbF := Lib.hid (hbw.out.trans (hb6.mono hbw.out.size))
        replace cT := Lib.hid cT
        replace hx6 := Lib.hid hx6
        clear hR6 hb6 cP
        go_wp2_with fail
        refine cT.out.mono ?_
        rintro e w7 ⟨u, rfl, ho, hb7⟩
        obtain ⟨au, lu, cu, rfl, hlu⟩ := own_form ho
        subst lu
        have htl : (touch (rMany a k c d).pats).length = k := touch_many k
        have hbG := Lib.hid (hbF.out.trans (hb7.mono hbF.out.size))
        rw [htl]
        replace htl := Lib.hid htl
        clear ho hb7
        have hkk : ((k : Int) == k) = true := beq_self_eq_true _
        go_wp2
        go_ret
        exact ⟨rfl, hbG.out⟩
      have y2 : decide ((c : Int) ≤ 8) = true := decide_eq_true e2
      by_cases e3 : (d : Int) ≤ 64
      case neg =>
        have y3 : decide ((d : Int) ≤ 64) = false := decide_eq_false e3
        have hok : recOk (rMany a k c d) = false := by rw [many_ok a k c d hn]; simp; omega
        rw [hok] at cP
        replace cP := Lib.hid cP
        replace hok := Lib.hid hok
        go_wp2_with fail
        refine cP.out.mono ?_
        rintro e w6 ⟨rfl, hb6⟩
        have hR6 := hR.out.more hb6
        have hx6 := (Chg.of_below (S := fun _ => False) hb6).heap hxx.out id
        obtain ⟨⟨d0, d1, d2, d3, d4, d5, d6⟩, ⟨d7, d8, d9, d10, d11, d12, d13⟩, hl9⟩ := rec_cells hx6
        have cT := touches_any _ _ _ _ _ _ w6 hR6 (by show (patN k).length ≤ 1000000; rw [patN_length]; omega)
        have hbF := Lib.hid (hbw.out.trans (hb6.mono hbw.out.size))
        replace cT := Lib.hid cT
        replace hx6 := Lib.hid hx6
        clear hR6 hb6 cP
        go_wp2_with fail
        refine cT.out.mono ?_
        rintro e w7 ⟨u, rfl, ho, hb7⟩
        obtain ⟨au, lu, cu, rfl, hlu⟩ := own_form ho
        subst lu
        have htl : (touch (rMany a k c d).pats).length = k := touch_many k
        have hbG := Lib.hid (hbF.out.trans (hb7.mono hbF.out.size))
        rw [htl]
        replace htl := Lib.hid htl
        clear ho hb7
        have hkk : ((k : Int) == k) = true := beq_self_eq_true _
        go_wp2
        go_ret
        exact ⟨rfl, hbG.out⟩
      have y3 : decide ((d : Int) ≤ 64) = true := decide_eq_true e3
      have hok : recOk (rMany a k c d) = true := by rw [many_ok a k c d hn]; simp; omega
      rw [hok] at cP
      replace cP := Lib.hid cP
      replace hok := Lib.hid hok
      go_wp2_with fail
      refine cP.out.mono ?_
      rintro e w6 ⟨rfl, hb6⟩
      have hR6 := hR.out.more hb6
      have hx6 := (Chg.of_below (S := fun _ => False) hb6).heap hxx.out id
      obtain ⟨⟨d0, d1, d2, d3, d4, d5, d6⟩, ⟨d7, d8, d9, d10, d11, d12, d13⟩, hl9⟩ := rec_cells hx6
      have cT := touches_any _ _ _ _ _ _ w6 hR6 (by show (patN k).length ≤ 1000000; rw [patN_length]; omega)
      have hbF := Lib.hid (hbw.out.trans (hb6.mono hbw.out.size))
      replace cT := Lib.hid cT
      replace hx6 := Lib.hid hx6
      clear hR6 hb6 cP
      go_wp2_with fail
      refine cT.out.mono ?_
      rintro e w7 ⟨u, rfl, ho, hb7⟩
      obtain ⟨au, lu, cu, rfl, hlu⟩ := own_form ho
      subst lu
      have htl : (touch (rMany a k c d).pats).length = k := touch_many k
      have hbG := Lib.hid (hbF.out.trans (hb7.mono hbF.out.size))
      rw [htl]
      replace htl := Lib.hid htl
      clear ho hb7
      have hkk : ((k : Int) == k) = true := beq_self_eq_true _
      go_wp2
      go_ret
      exact ⟨rfl, hbG.out⟩
set_option maxRecDepth 100000 in
set_option maxHeartbeats 6400000 in
theorem many_out (a b c d : Int) (w : World) (hT : Tab w) (k0 : ¬ (0 ≤ a ∧ a ≤ 80 ∧ 0 ≤ b ∧ b ≤ 60 ∧ 0 ≤ c ∧ c ≤ 20 ∧ 0 ≤ d ∧ d ≤ 80)) : Calls Tryd.prog 8 #[.int .i64 a, .int .i64 b, .int .i64 c, .int .i64 d] w fun e w' => e = .returned (.bool true) ∧ Below w.heap.size w w' := by
  have C := Lib.hid (alive_true w hT)
  by_cases t0 : a < 0
  · have u0 : decide (a < 0) = true := decide_eq_true t0
    clear k0
    go_enter Tryd.func8, Tryd.ntmps8
    go_wp2_with fail
    refine C.out.mono ?_
    rintro e w1 ⟨rfl, hb1⟩
    go_wp2
    go_ret
    exact ⟨rfl, hb1⟩
  have u0 : decide (a < 0) = false := decide_eq_false t0
  by_cases t1 : 80 < a
  · have u1 : decide (80 < a) = true := decide_eq_true t1
    clear k0
    go_enter Tryd.func8, Tryd.ntmps8
    go_wp2_with fail
    refine C.out.mono ?_
    rintro e w1 ⟨rfl, hb1⟩
    go_wp2
    go_ret
    exact ⟨rfl, hb1⟩
  have u1 : decide (80 < a) = false := decide_eq_false t1
  by_cases t2 : b < 0
  · have u2 : decide (b < 0) = true := decide_eq_true t2
    clear k0
    go_enter Tryd.func8, Tryd.ntmps8
    go_wp2_with fail
    refine C.out.mono ?_
    rintro e w1 ⟨rfl, hb1⟩
    go_wp2
    go_ret
    exact ⟨rfl, hb1⟩
  have u2 : decide (b < 0) = false := decide_eq_false t2
  by_cases t3 : 60 < b
  · have u3 : decide (60 < b) = true := decide_eq_true t3
    clear k0
    go_enter Tryd.func8, Tryd.ntmps8
    go_wp2_with fail
    refine C.out.mono ?_
    rintro e w1 ⟨rfl, hb1⟩
    go_wp2
    go_ret
    exact ⟨rfl, hb1⟩
  have u3 : decide (60 < b) = false := decide_eq_false t3
  by_cases t4 : c < 0
  · have u4 : decide (c < 0) = true := decide_eq_true t4
    clear k0
    go_enter Tryd.func8, Tryd.ntmps8
    go_wp2_with fail
    refine C.out.mono ?_
    rintro e w1 ⟨rfl, hb1⟩
    go_wp2
    go_ret
    exact ⟨rfl, hb1⟩
  have u4 : decide (c < 0) = false := decide_eq_false t4
  by_cases t5 : 20 < c
  · have u5 : decide (20 < c) = true := decide_eq_true t5
    clear k0
    go_enter Tryd.func8, Tryd.ntmps8
    go_wp2_with fail
    refine C.out.mono ?_
    rintro e w1 ⟨rfl, hb1⟩
    go_wp2
    go_ret
    exact ⟨rfl, hb1⟩
  have u5 : decide (20 < c) = false := decide_eq_false t5
  by_cases t6 : d < 0
  · have u6 : decide (d < 0) = true := decide_eq_true t6
    clear k0
    go_enter Tryd.func8, Tryd.ntmps8
    go_wp2_with fail
    refine C.out.mono ?_
    rintro e w1 ⟨rfl, hb1⟩
    go_wp2
    go_ret
    exact ⟨rfl, hb1⟩
  have u6 : decide (d < 0) = false := decide_eq_false t6
  by_cases t7 : 80 < d
  · have u7 : decide (80 < d) = true := decide_eq_true t7
    clear k0
    go_enter Tryd.func8, Tryd.ntmps8
    go_wp2_with fail
    refine C.out.mono ?_
    rintro e w1 ⟨rfl, hb1⟩
    go_wp2
    go_ret
    exact ⟨rfl, hb1⟩
  have u7 : decide (80 < d) = false := decide_eq_false t7
  exact absurd (by omega) k0
theorem recordMany_walk (a b c d : Int) (w : World) (hT : Tab w) (w0 : (Lit.int .i64 a).wf = true) (w1 : (Lit.int .i64 b).wf = true) (w2 : (Lit.int .i64 c).wf = true) (w3 : (Lit.int .i64 d).wf = true) : Calls Tryd.prog 8 #[.int .i64 a, .int .i64 b, .int .i64 c, .int .i64 d] w fun e w' => e = .returned (.bool true) ∧ Below w.heap.size w w' := by
  by_cases k0 : 0 ≤ a ∧ a ≤ 80 ∧ 0 ≤ b ∧ b ≤ 60 ∧ 0 ≤ c ∧ c ≤ 20 ∧ 0 ≤ d ∧ d ≤ 80
  · obtain ⟨h1, h2, h3, h4, h5, h6, h7, h8⟩ := k0
    obtain ⟨a, rfl⟩ := Int.eq_ofNat_of_zero_le h1
    obtain ⟨b, rfl⟩ := Int.eq_ofNat_of_zero_le h3
    obtain ⟨c, rfl⟩ := Int.eq_ofNat_of_zero_le h5
    obtain ⟨d, rfl⟩ := Int.eq_ofNat_of_zero_le h7
    exact many_go a b c d w hT (by omega) (by omega) (by omega) (by omega)
  · exact many_out a b c d w hT k0
end Go.Proofs.YtikdjbcfckjccaaDoor
