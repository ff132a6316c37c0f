/- Disks and logs that the laws hand in: what answers the same always; what writes down what it is asked for. No condition. -/
import Derived.Test.YtlbeaoglkhfdcaaONew
namespace Go.Proofs.Ytlbeaoglkhfdcaa
open Go.RowKit Go.Maps Go.WideShapes
theorem ent_any {f : Nat} {fn : Func} (h : Try.prog.funcs[f]? = some fn) (hn : (fn.name == "runtime.NumGoroutine") = false) (hb : fn.body.isNone = false) (args : Array Value) (w : World) : (callFunc f args).run Try.prog w = .ok (.enter f args) w := by
  have hn' : ¬ fn.name = "runtime.NumGoroutine" := by simpa using hn
  have hb' : ¬ fn.body = none := by
    intro e
    rw [e] at hb
    simp at hb
  simp [callFunc, go_sem, h, hn', hb']
theorem ent_read (args : Array Value) (w : World) : (callFunc 22 args).run Try.prog w = .ok (.enter 22 args) w := ent_any Try.func22 (by kernel_rfl) (by kernel_rfl) args w
theorem ent_write (args : Array Value) (w : World) : (callFunc 23 args).run Try.prog w = .ok (.enter 23 args) w := ent_any Try.func23 (by kernel_rfl) (by kernel_rfl) args w
theorem ent_log (args : Array Value) (w : World) : (callFunc 24 args).run Try.prog w = .ok (.enter 24 args) w := ent_any Try.func24 (by kernel_rfl) (by kernel_rfl) args w

/-! ### what answers the same always -/
/-- Functions that capture nothing and turn nothing. -/
def dvSame (b : ByteArray) : Dv Unit := ⟨fun t _ => (t, b, 0), fun t _ _ => (t, 0), fun t _ => (t, 0)⟩
def devSame (b : ByteArray) (fR fW fL : Nat) (entR : ∀ args w, (callFunc fR args).run Try.prog w = .ok (.enter fR args) w) (entW : ∀ args w, (callFunc fW args).run Try.prog w = .ok (.enter fW args) w) (entL : ∀ args w, (callFunc fL args).run Try.prog w = .ok (.enter fL args) w)
    (cR : ∀ (n : Int) (w : World), Calls Try.prog fR #[.int .i64 n] w fun e w' => e = .returned (.tuple #[.string b, .int .i64 0]) ∧ w = w') (cW : ∀ (n : Int) (s : ByteArray) (w : World), Calls Try.prog fW #[.int .i64 n, .string s] w fun e w' => e = .returned (.int .i64 0) ∧ w = w')
    (cL : ∀ (n : Int) (w : World), Calls Try.prog fL #[.int .i64 n] w fun e w' => e = .returned (.int .i64 0) ∧ w = w') : Dev (dvSame b) where
  I := fun F _ _ => ∀ k, ¬ F k
  kept := fun h _ _ => h
  lt := fun h k hk => absurd hk (h k)
  left := fun _ => 1000000
  leftR := fun _ _ => by omega
  leftW := fun _ _ _ => by omega
  leftL := fun _ _ => by omega
  fR := fR
  fW := fW
  fL := fL
  pR := #[]
  cR := #[]
  pW := #[]
  cW := #[]
  pL := #[]
  cL := #[]
  entR := entR
  entW := entW
  entL := entL
  callR := fun {F w t} n h _ _ => (cR n w).mono fun e w' ⟨he, hw⟩ => by subst hw; exact ⟨he, F, h, Stp.refl _ _⟩
  callW := fun {F w t} n s h _ _ => (cW n s w).mono fun e w' ⟨he, hw⟩ => by subst hw; exact ⟨he, F, h, Stp.refl _ _⟩
  callL := fun {F w t} n h _ => (cL n w).mono fun e w' ⟨he, hw⟩ => by subst hw; exact ⟨he, F, h, Stp.refl _ _⟩

/-! ### what writes down what it is asked for -/
abbrev St := List (UInt8 × Int × ByteArray)
def stcells : St → List Value
  | [] => []
  | p :: r => .int .u8 p.1.toNat :: .int .i64 p.2.1 :: .string p.2.2 :: stcells r
theorem stcells_length : ∀ l : St, (stcells l).length = l.length * 3
  | [] => rfl
  | p :: r => by simp [stcells, stcells_length r]; omega
theorem stcells_append : ∀ l m : St, stcells (l ++ m) = stcells l ++ stcells m
  | [], m => rfl
  | p :: r, m => by simp [stcells, stcells_append r m]
theorem stcells_one : ∀ l : St, ∀ u ∈ stcells l, u.oneCell' = true
  | [], u, h => by cases h
  | p :: r, u, h => by
    rcases List.mem_cons.1 h with rfl | h
    · rfl
    · rcases List.mem_cons.1 h with rfl | h
      · rfl
      · rcases List.mem_cons.1 h with rfl | h
        · rfl
        · exact stcells_one r u h
theorem stcells_at (l : St) : ∀ k (h : k < l.length), (stcells l)[3 * k]? = some (.int .u8 (l[k]).1.toNat) ∧ (stcells l)[3 * k + 1]? = some (.int .i64 (l[k]).2.1) ∧ (stcells l)[3 * k + 2]? = some (.string (l[k]).2.2) := by
  induction l with
  | nil => intro k h; simp at h
  | cons p a ih =>
    intro k h
    cases k with
    | zero => simp [stcells]
    | succ k =>
      have := ih k (by simpa using h)
      rw [show 3 * (k + 1) = 3 * k + 1 + 1 + 1 by omega]
      simpa [stcells] using this
theorem infoStep : (Try.prog.info? 53).map (fun i => (i.zero, i.size, i.bytes)) = some (some (.agg #[.int .u8 0, .int .i64 0, .string ByteArray.empty]), 3, 32) := by kernel_rfl
theorem new_three {w : World} {b' : Nat} {x y z : Value} (t : TypeId) (hb : b' = w.heap.size) : ∀ j u, [x, y, z][j]? = some u → (w.alloc (.cells #[x, y, z] t)).cell? (Addr.add ⟨b', 0, none⟩ j) = some u := by
  subst hb
  intro j u hj
  match j, hj with
  | 0, hj =>
    cases hj
    rw [Addr.add_lit]
    exact cell_of (heap_alloc_new w _) rfl
  | 1, hj =>
    cases hj
    rw [Addr.add_lit]
    exact cell_of (heap_alloc_new w _) rfl
  | 2, hj =>
    cases hj
    rw [Addr.add_lit]
    exact cell_of (heap_alloc_new w _) rfl
  | n + 3, hj => simp at hj
/-- The rec: its block, the row of its steps, its pages. -/
structure RAt (pages : List ByteArray) (rb gb go gc : Nat) (F : Nat → Prop) (w : World) (t : St) : Prop where
  row : ∃ vs, w.heap[rb]? = some (.cells #[vs, .slice (some ⟨gb, go, none⟩) pages.length gc, .int .i64 0] 45 (0, 0)) ∧ w.ownsRow 0 53 3 vs t.length (stcells t) ∧ (∀ k, vs.ownBlock = some k → F k ∧ k ≠ rb ∧ k ≠ gb)
  pg : ∀ j (h : j < pages.length), w.cell? ⟨gb, go + j, none⟩ = some (.string pages[j])
  gl : gb < w.heap.size
  own : F rb ∧ F gb ∧ rb ≠ gb ∧ ∀ k, F k → k < w.heap.size
  few : t.length ≤ 1000000
section
variable {pages : List ByteArray} {rb gb go gc : Nat} {F : Nat → Prop} {w w' : World} {t : St}
theorem RAt.kept {S : Nat → Prop} (h : RAt pages rb gb go gc F w t) (hc : Chg S w w') (hS : ∀ k, F k → ¬ S k) : RAt pages rb gb go gc F w' t := by
  obtain ⟨⟨vs, h1, h2, h3⟩, h4, h5, ⟨o1, o2, o3, o4⟩, h6⟩ := h
  exact ⟨⟨vs, hc.heap h1 (hS _ o1), hc.row h2 (fun k hk => hS k (h3 k hk).1), h3⟩, fun j hj => (World.cell?_of_block (w := w) (hc.block _ h5 (hS _ o2))).trans (h4 j hj), Nat.lt_of_lt_of_le h5 hc.size, ⟨o1, o2, o3, fun k hk => Nat.lt_of_lt_of_le (o4 k hk) hc.size⟩, h6⟩
theorem RAt.stepped {vs v5 : Value} {o : Obj} {w5 : World} {kind : UInt8} {n : Int} {b : ByteArray} (h : RAt pages rb gb go gc F w t) (hl : t.length < 1000000)
    (h1 : w.heap[rb]? = some (.cells #[vs, .slice (some ⟨gb, go, none⟩) pages.length gc, .int .i64 0] 45 (0, 0))) (h2 : w.ownsRow 0 53 3 vs t.length (stcells t)) (h3 : ∀ k, vs.ownBlock = some k → F k ∧ k ≠ rb ∧ k ≠ gb)
    (hown : w5.ownsRow 0 53 3 v5 (t.length + 1) (stcells t ++ [.int .u8 kind.toNat, .int .i64 n, .string b])) (hgrow : (w.alloc o).grownBy w5 vs.ownBlock) (hrow : v5.ownBlock = vs.ownBlock ∨ ∀ k, v5.ownBlock = some k → (w.alloc o).heap.size ≤ k) :
    (w5.cell? ⟨rb, 0, none⟩ = some vs ∧ w5.cell? ⟨rb, 2, none⟩ = some (.int .i64 0) ∧ w5.frozen? ⟨rb, 0, none⟩ = false ∧ rb < w5.heap.size) ∧ (∃ a c, v5 = .slice a (t.length + 1) c) ∧
    ∃ F', RAt pages rb gb go gc F' (w5.setCell ⟨rb, 0, none⟩ v5) (t ++ [(kind, n, b)]) ∧ Stp F w F' (w5.setCell ⟨rb, 0, none⟩ v5) := by
  obtain ⟨o1, o2, o3, o4⟩ := h.own
  have c5 : Chg (fun k => vs.ownBlock = some k) w w5 := ((Chg.refl (fun k => vs.ownBlock = some k) w).alloc o).grown hgrow (fun j _ e => e)
  have hrb5 := c5.heap h1 (fun e => (h3 rb e).2.1 rfl)
  have hsz : w.heap.size < w5.heap.size := by have := hgrow.size; simp at this; omega
  have hv5 : ∀ k, v5.ownBlock = some k → k ≠ rb ∧ k ≠ gb ∧ (F k ∨ w.heap.size ≤ k) ∧ k < w5.heap.size := fun k hk => by
    have hk5 := (hown.lt k hk).2
    rcases hrow with e | e
    · have := h3 k (e ▸ hk)
      exact ⟨this.2.1, this.2.2, .inl this.1, hk5⟩
    · have := e k hk
      simp at this
      have := o4 rb o1
      have := o4 gb o2
      exact ⟨by omega, by omega, .inr (by omega), hk5⟩
  obtain ⟨ao, l5, cc, e1, e2⟩ := own_form hown
  refine ⟨⟨cell_of hrb5 rfl, cell_of hrb5 rfl, free_of hrb5, lt_of hrb5⟩, ⟨ao, cc, by rw [e1, e2]⟩, fun k => F k ∨ v5.ownBlock = some k, ⟨⟨v5, ?_, ?_, fun k hk => ⟨.inr hk, (hv5 k hk).1, (hv5 k hk).2.1⟩⟩, fun j hj => ?_, ?_, ⟨.inl o1, .inl o2, o3, fun k hk => ?_⟩, by simp; omega⟩, ?_, fun k hk => ?_⟩
  · have := heap_set (i := 0) hrb5 v5
    simpa using this
  · rw [List.length_append, stcells_append]
    exact ownsRow_setCell_other hown (fun e => (hv5 rb e).1 rfl) v5
  · have hg := (World.cell?_of_block (w := w) (c5.block _ h.gl (fun e => (h3 gb e).2.2 rfl))).trans (h.pg j hj)
    have c6 : Chg (fun k => k = rb) w5 (w5.setCell ⟨rb, 0, none⟩ v5) := (Chg.refl (fun k => k = rb) w5).setCell (a := ⟨rb, 0, none⟩) (fun _ => rfl) v5
    exact (World.cell?_of_block (w := w5) (c6.block _ (World.block_lt_of_cell? _ _ hg) (fun e => o3 e.symm))).trans hg
  · have := h.gl
    simp; omega
  · rcases hk with hk | hk
    · have := o4 k hk
      simp; omega
    · have := (hv5 k hk).2.2.2
      simpa using this
  · exact (c5.mono (fun k _ e => (h3 k e).1)).setCell (a := ⟨rb, 0, none⟩) (fun _ => o1) v5
  · rcases hk with hk | hk
    · exact .inl hk
    · exact (hv5 k hk).2.2.1
set_option maxHeartbeats 800000 in
theorem step_any (kind : UInt8) (n : Int) (b : ByteArray) (h : RAt pages rb gb go gc F w t) (hl : t.length < 1000000) :
    Calls Try.prog 35 #[.pointer (some ⟨rb, 0, none⟩), .int .u8 kind.toNat, .int .i64 n, .string b] w fun e w' => e = .returned (.int .i64 0) ∧ ∃ F', RAt pages rb gb go gc F' w' (t ++ [(kind, n, b)]) ∧ Stp F w F' w' := by
  obtain ⟨ii, hi0, hz0, hz1, hz2⟩ := info_parts infoStep
  obtain ⟨vs, h1, h2, h3⟩ := h.row
  obtain ⟨va, vl, vc, rfl, rfl⟩ := own_form h2
  have c0 : w.cell? ⟨rb, 0, none⟩ = some (.slice va t.length vc) := cell_of h1 rfl
  have hrb := lt_of h1
  replace h := Lib.hid h
  replace h1 := Lib.hid h1
  replace h2 := Lib.hid h2
  replace h3 := Lib.hid h3
  go_enter Try.func35, Try.ntmps35
  go_wp2_with (at_builtin; refine wpList_append_own' rfl (.tmp 13) (.tmp 18) 43 rfl 0 53 ii (.agg #[.int .u8 0, .int .i64 0, .string ByteArray.empty]) 3 32 Try.underlying43 hi0 hz0 hz1 hz2 rfl (by decide) _ _ _ rfl (h2.out.alloc _) ⟨w.heap.size, 0, none⟩ 1 1 [.int .u8 kind.toNat, .int .i64 n, .string b] rfl rfl (new_three _ rfl) (by intro u hu; simp at hu; rcases hu with rfl | rfl | rfl <;> rfl) (by unfold maxLen; omega) (by omega) (by omega) ?_; intro v5 w5 hown' hgrow hrow; obtain ⟨⟨d0, d2, df, dl⟩, ⟨a5, c5, e5⟩, hR⟩ := h.out.stepped hl h1.out h2.out h3.out hown' hgrow hrow; subst e5; clear hown' hgrow hrow; obtain ⟨F', hR1, hR2⟩ := hR; have hX := hR1.kept (S := fun _ => False) (Chg.refl (fun _ => False) _).drew (fun _ _ => id); have hY := Stp.trans hR2 ⟨(Chg.refl F' _).drew, fun _ e => .inl e⟩; replace hX := Lib.hid hX; replace hY := Lib.hid hY; clear hR1 hR2)
  go_region
  all_goals go_wp2
  all_goals go_ret
  all_goals exact ⟨rfl, F', hX.out, hY.out⟩
theorem write_any (n : Int) (b : ByteArray) (h : RAt pages rb gb go gc F w t) (hl : t.length < 1000000) :
    Calls Try.prog 23 #[.pointer (some ⟨rb, 0, none⟩), .int .i64 n, .string b] w fun e w' => e = .returned (.int .i64 0) ∧ ∃ F', RAt pages rb gb go gc F' w' (t ++ [(119, n, b)]) ∧ Stp F w F' w' := by
  have hs := step_any 119 n b h hl
  replace hs := Lib.hid hs
  clear h
  go_enter Try.func23, Try.ntmps23
  go_wp2_with fail
  refine hs.out.mono ?_
  rintro e w1 ⟨rfl, hq⟩
  replace hq := Lib.hid hq
  go_wp2
  go_ret
  exact ⟨rfl, hq.out⟩
theorem log_any (n : Int) (h : RAt pages rb gb go gc F w t) (hl : t.length < 1000000) :
    Calls Try.prog 24 #[.pointer (some ⟨rb, 0, none⟩), .int .i64 n] w fun e w' => e = .returned (.int .i64 0) ∧ ∃ F', RAt pages rb gb go gc F' w' (t ++ [(108, n, ⟨#[]⟩)]) ∧ Stp F w F' w' := by
  have hs := step_any 108 n ⟨#[]⟩ h hl
  replace hs := Lib.hid hs
  clear h
  go_enter Try.func24, Try.ntmps24
  go_wp2_with fail
  refine hs.out.mono ?_
  rintro e w1 ⟨rfl, hq⟩
  replace hq := Lib.hid hq
  go_wp2
  go_ret
  exact ⟨rfl, hq.out⟩
def dvRec (pages : List ByteArray) : Dv St := ⟨fun t n => (t ++ [(114, n, ⟨#[]⟩)], if 0 ≤ n ∧ n < pages.length then (pages.getD n.toNat ⟨#[]⟩, 0) else (⟨#[]⟩, 12)), fun t n b => (t ++ [(119, n, b)], 0), fun t n => (t ++ [(108, n, ⟨#[]⟩)], 0)⟩
set_option maxHeartbeats 800000 in
theorem read_any (n : Int) (h : RAt pages rb gb go gc F w t) (hl : t.length < 1000000) (hp : pages.length ≤ 1000000) :
    Calls Try.prog 22 #[.pointer (some ⟨rb, 0, none⟩), .int .i64 n] w fun e w' => e = .returned (.tuple #[.string ((dvRec pages).rd t n).2.1, .int .i64 ((dvRec pages).rd t n).2.2]) ∧ ∃ F', RAt pages rb gb go gc F' w' (t ++ [(114, n, ⟨#[]⟩)]) ∧ Stp F w F' w' := by
  have hs := step_any 114 n ⟨#[]⟩ h hl
  replace hs := Lib.hid hs
  clear h
  have hfacts : ∀ (F' : Nat → Prop) (w' : World) (t' : St), RAt pages rb gb go gc F' w' t' → w'.cell? ⟨rb, 1, none⟩ = some (.slice (some ⟨gb, go, none⟩) pages.length gc) ∧ rb < w'.heap.size ∧ gb < w'.heap.size := fun _ _ _ h => by
    obtain ⟨vs, h1, _⟩ := h.row
    exact ⟨cell_of h1 rfl, lt_of h1, h.gl⟩
  replace hfacts := Lib.hid hfacts
  by_cases h0 : n < 0
  · have hr : ((dvRec pages).rd t n).2 = (⟨#[]⟩, 12) := by simp only [dvRec]; rw [if_neg (by omega)]
    rw [hr]
    clear hr
    go_enter Try.func22, Try.ntmps22
    go_wp2_with fail
    refine hs.out.mono ?_
    rintro e w1 ⟨rfl, F', hR, hS⟩
    replace hR := Lib.hid hR
    replace hS := Lib.hid hS
    go_wp2
    go_ret2
    exact ⟨rfl, F', hR.out, hS.out⟩
  · by_cases h1 : n < pages.length
    · obtain ⟨k, rfl⟩ : ∃ k : Nat, n = k := ⟨n.toNat, by omega⟩
      have hk : k < pages.length := by omega
      have hr : ((dvRec pages).rd t k).2 = (pages[k], 0) := by
        simp only [dvRec]
        rw [if_pos ⟨by omega, h1⟩]
        simp [List.getElem?_eq_getElem hk]
      rw [hr]
      clear hr
      go_enter Try.func22, Try.ntmps22
      go_wp2_with fail
      refine hs.out.mono ?_
      rintro e w1 ⟨rfl, F', hR, hS⟩
      obtain ⟨c1, hrl, hgl⟩ := hfacts.out _ _ _ hR
      have hpk := hR.pg k hk
      replace hR := Lib.hid hR
      replace hS := Lib.hid hS
      go_wp2
      go_ret2
      exact ⟨rfl, F', hR.out, hS.out⟩
    · have hr : ((dvRec pages).rd t n).2 = (⟨#[]⟩, 12) := by simp only [dvRec]; rw [if_neg (by omega)]
      rw [hr]
      clear hr
      go_enter Try.func22, Try.ntmps22
      go_wp2_with fail
      refine hs.out.mono ?_
      rintro e w1 ⟨rfl, F', hR, hS⟩
      obtain ⟨c1, hrl, hgl⟩ := hfacts.out _ _ _ hR
      replace hR := Lib.hid hR
      replace hS := Lib.hid hS
      go_wp2
      go_ret2
      exact ⟨rfl, F', hR.out, hS.out⟩
end
def devRec (pages : List ByteArray) (hp : pages.length ≤ 1000000) (rb gb go gc : Nat) : Dev (dvRec pages) where
  I := RAt pages rb gb go gc
  kept := fun h hc hS => h.kept hc hS
  lt := fun h k hk => h.own.2.2.2 k hk
  left := fun t => 1000000 - t.length
  leftR := fun t n => by simp [dvRec]; omega
  leftW := fun t n b => by simp [dvRec]; omega
  leftL := fun t n => by simp [dvRec]; omega
  fR := 22
  fW := 23
  fL := 24
  pR := #[.pointer (some ⟨rb, 0, none⟩)]
  cR := #[]
  pW := #[.pointer (some ⟨rb, 0, none⟩)]
  cW := #[]
  pL := #[.pointer (some ⟨rb, 0, none⟩)]
  cL := #[]
  entR := ent_read
  entW := ent_write
  entL := ent_log
  callR := fun n h _ hl => read_any n h (by omega) hp
  callW := fun n b h _ hl => write_any n b h (by omega)
  callL := fun n h hl => log_any n h (by omega)
end Go.Proofs.Ytlbeaoglkhfdcaa
