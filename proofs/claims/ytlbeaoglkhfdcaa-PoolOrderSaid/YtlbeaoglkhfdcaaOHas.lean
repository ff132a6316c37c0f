/- Which pages are in a pool. No condition. -/
import Derived.Test.YtlbeaoglkhfdcaaOPool
import Derived.Test.YtlbeaoglkhfdcaaShelf
import Derived.Sort.OwnSortedInts
import Derived.Deep.LoopGhost
import Derived.WalkSmall
namespace Go.Proofs.Ytlbeaoglkhfdcaa
open Go.RowKit Go.Maps Go.WideShapes Go.Sort

/-- A row of numbers. -/
def icells (l : List Int) : List Value := l.map fun x => .int .i64 x
theorem icells_length (l : List Int) : (icells l).length = l.length := by simp [icells]
theorem icells_append (l m : List Int) : icells (l ++ m) = icells l ++ icells m := by simp [icells]
theorem icells_one (l : List Int) : ∀ u ∈ icells l, u.oneCell' = true := by
  intro u hu
  obtain ⟨x, _, rfl⟩ := List.mem_map.1 hu
  rfl
theorem infoInt : (Try.prog.info? 3).map (fun i => (i.zero, i.size, i.bytes)) = some (some (.int .i64 0), 1, 8) := by kernel_rfl
def IAt (w : World) (a : Option Addr) (l : List Int) : Prop := ∀ j (h : j < l.length), ∃ b o, a = some ⟨b, o, none⟩ ∧ w.cell? ⟨b, o + j, none⟩ = some (.int .i64 l[j])
theorem IAt.more {w w' : World} {a : Option Addr} {l : List Int} (h : IAt w a l) (hb : Below w.heap.size w w') : IAt w' a l := fun j hj => by
  obtain ⟨b, o, e, h1⟩ := h j hj
  exact ⟨b, o, e, cell_more hb h1⟩
theorem IAt.own {w : World} {base : Nat} {v : Value} {n : Nat} {l : List Int} (h : w.ownsRow base 3 1 v n (icells l)) : ∃ a c, v = .slice a l.length c ∧ IAt w a l := by
  have hn : n = l.length := by have := h.1; rw [icells_length] at this; omega
  subst hn
  rcases h.2 with ⟨rfl, h0⟩ | ⟨g, cap, cur, rfl, _⟩
  · exact ⟨none, 0, by rw [h0], fun j hj => by omega⟩
  · refine ⟨_, _, rfl, fun j hj => ⟨g, 0, rfl, ?_⟩⟩
    rw [Nat.zero_add, h.cellAt j (by omega)]
    simp [icells, List.getElem?_eq_getElem hj]
theorem new_one {w : World} {b' : Nat} {x : Int} (t : TypeId) (hb : b' = w.heap.size) : ∀ j u, [Value.int .i64 x][j]? = some u → (w.alloc (.cells #[.int .i64 x] t)).cell? (Addr.add ⟨b', 0, none⟩ j) = some u := by
  subst hb
  intro j u hj
  match j, hj with
  | 0, hj =>
    cases hj
    rw [Addr.add_lit]
    exact cell_of (heap_alloc_new w _) rfl
  | n + 1, hj => simp at hj
theorem row_base {w : World} {base base' : Nat} {e : TypeId} {size : Nat} {v : Value} {n : Nat} {xs : List Value} (h : w.ownsRow base e size v n xs) (hb : base' ≤ base) : w.ownsRow base' e size v n xs := by
  refine ⟨h.1, ?_⟩
  rcases h.2 with hh | ⟨g, cap, cur, hv, hg, rest⟩
  · exact .inl hh
  · exact .inr ⟨g, cap, cur, hv, Nat.le_trans hb hg, rest⟩

theorem rise_ext : ∀ {l m : List Int}, Rise l → Rise m → (∀ x, x ∈ l ↔ x ∈ m) → l = m
  | [], [], _, _, _ => rfl
  | [], y :: m, _, _, h => by have := (h y).2 (by simp); simp at this
  | x :: l, [], _, _, h => by have := (h x).1 (by simp); simp at this
  | x :: l, y :: m, h1, h2, h => by
    have a1 := List.pairwise_cons.1 h1
    have a2 := List.pairwise_cons.1 h2
    have e : x = y := by
      rcases List.mem_cons.1 ((h x).1 (by simp)) with e | e
      · exact e
      · rcases List.mem_cons.1 ((h y).2 (by simp)) with e' | e'
        · exact e'.symm
        · have := a2.1 x e; have := a1.1 y e'; omega
    subst e
    congr 1
    refine rise_ext a1.2 a2.2 fun z => ⟨fun hz => ?_, fun hz => ?_⟩
    · rcases List.mem_cons.1 ((h z).1 (by simp [hz])) with e | e
      · have := a1.1 z hz; omega
      · exact e
    · rcases List.mem_cons.1 ((h z).2 (by simp [hz])) with e | e
      · have := a2.1 z hz; omega
      · exact e
theorem rise_sorted {l : List Int} (hd : l.Nodup) : Rise (l.mergeSort fun x y => decide (x ≤ y)) ∧ ∀ x, x ∈ (l.mergeSort fun x y => decide (x ≤ y)) ↔ x ∈ l := by
  have hp := List.mergeSort_perm l (fun x y => decide (x ≤ y))
  have hs := List.pairwise_mergeSort (le := fun x y : Int => decide (x ≤ y)) (by intro a b c h1 h2; simp at *; omega) (by intro a b; simp; omega) l
  refine ⟨?_, fun x => hp.mem_iff⟩
  have hn : (l.mergeSort fun x y => decide (x ≤ y)).Nodup := hp.nodup_iff.2 hd
  have h2 := hs.and hn
  exact h2.imp (fun {a b} ⟨h, hne⟩ => by simp at h; omega)
/-- Sorted, of pages that come each once: the pages. -/
theorem sorted_ks {ks out : List Int} (hk : Rise ks) (hd : out.Nodup) (h1 : ∀ x ∈ out, x ∈ ks) (h2 : ∀ x ∈ ks, x ∈ out) : out.mergeSort (fun x y => decide (x ≤ y)) = ks := by
  obtain ⟨h3, h4⟩ := rise_sorted hd
  exact rise_ext h3 hk fun x => (h4 x).trans ⟨h1 x, h2 x⟩
/-- A map is ranged over: those in done have come. -/
def PRange (w : World) (b r : Nat) (ks done : List Int) (cnt : Nat) : Prop :=
  ∃ (D : DataW Unit) (left : Lit → Bool) (n : Nat), w.ranges Try.prog 3 ptrElem b r n D left cnt ∧ (∀ x, left (.int .i64 x) = (decide (x ∈ ks) && decide (x ∉ done)))
theorem PRange.kept {w w' : World} {b r cnt : Nat} {ks done : List Int} {row : Option Nat} (h : PRange w b r ks done cnt) (hg : w.grownBy w' row) (hb : some b ≠ row) (hr : some r ≠ row) : PRange w' b r ks done cnt := by
  obtain ⟨D, left, n, h1, h2⟩ := h
  exact ⟨D, left, n, h1.kept hg hb hr, h2⟩
theorem wpList_pmap_range {w : World} {ops : Array Oper} {rest : List Oper} {o : Oper} {a : Act} {Q : Exit → Act → World → Prop} {b : Nat} {ks : List Int} {bk : Int → Nat}
    (hg : o.guard = none) (m : Operand) (hop : o.op = Op.range 60 m) (hm : a.eval m = .map (some b)) (h : PMap w b ks bk)
    (hK : ∀ w' cnt, PRange w' b w.heap.size ks [] cnt → w.grownBy w' none → w'.heap.size = w.heap.size + 1 → wpList Try.prog ops Q rest (a.put o.dst (.pointer (some ⟨w.heap.size, 0, none⟩))) w') : wpList Try.prog ops Q (o :: rest) a w := by
  obtain ⟨D, n, _, h1, h2, h3, h4⟩ := h
  exact wpList_range_own w hg m 60 hop 3 63 lawInt Try.underlying60 _ b _ D hm h1 (fun w' hr hg hs => hK w' _ ⟨D, _, n, hr, fun x => by rw [h3 x]; simp⟩ hg hs)
theorem wpList_pmap_next {w : World} {ops : Array Oper} {rest : List Oper} {o : Oper} {a : Act} {Q : Exit → Act → World → Prop} {b r cnt : Nat} {ks done : List Int}
    (hg : o.guard = none) (it : Operand) (hop : o.op = Op.next it false) (hit : a.eval it = .pointer (some ⟨r, 0, none⟩)) (h : PRange w b r ks done cnt)
    (hDone : (∀ x ∈ ks, x ∈ done) → wpList Try.prog ops Q rest (a.put o.dst (.tuple #[.bool false])) w)
    (hMore : ∀ (x : Int) (u : Value) (w' : World) (cnt' : Nat), (Lit.int .i64 x).wf = true → x ∈ ks → x ∉ done → PRange w' b r ks (done ++ [x]) cnt' → cnt' < cnt → w.grownBy w' (some r) → w'.heap.size = w.heap.size →
      (Instr.entry (.pointer (some ⟨r, 0, none⟩))).run Try.prog w' = .ok (.tuple #[.int .i64 x, u]) w' → wpList Try.prog ops Q rest (a.put o.dst (.tuple #[.bool true, .int .i64 x, u])) w') : wpList Try.prog ops Q (o :: rest) a w := by
  obtain ⟨D, left, n, h1, h4⟩ := h
  refine wpList_next_ranges w hg it hop 3 lawInt ptrElem (Value.int .i64) (fun v : Value => v) (fun key kl hkey => by obtain ⟨x, rfl, _⟩ := Maps.keyOf_int_inv Try.underlying3 hkey; exact ⟨x, rfl⟩) (fun v y hv => ⟨v, rfl⟩) b r _ D left cnt hit h1 (fun _ hl => hDone (fun x hx => ?_)) (fun x c kl y w' cnt' hk hl _ _ hr hlt hg1 hs hen => ?_)
  · have := hl (.int .i64 x)
    rw [h4 x] at this
    simpa [hx] using this
  · obtain ⟨x', e, rfl, hwf⟩ := Maps.keyOf_int_inv Try.underlying3 hk
    cases e
    rw [h4 x] at hl
    have hl' : x ∈ ks ∧ x ∉ done := by simpa using hl
    refine hMore x c w' cnt' hwf hl'.1 hl'.2 ⟨D, _, n, hr, fun z => ?_⟩ hlt hg1 hs hen
    rw [h4 z]
    by_cases e : z = x
    · subst e; simp [Lit.sameKey]
    · have e2 : (Lit.int .i64 z).sameKey (.int .i64 x) = false := sameKey_ne (by simpa using e)
      rw [e2]
      simp [e]
theorem nodup_len : ∀ (l m : List Int), l.Nodup → (∀ x ∈ l, x ∈ m) → l.length ≤ m.length
  | [], m, _, _ => Nat.zero_le _
  | a :: l, m, hN, hm => by
    have h1 := List.nodup_cons.1 hN
    have ha : a ∈ m := hm a (by simp)
    have := nodup_len l (m.erase a) h1.2 (fun x hx => by
      have hx2 := hm x (by simp [hx])
      exact (List.mem_erase_of_ne (fun e => h1.1 (by rw [← e]; exact hx))).2 hx2)
    have h3 := List.length_erase_of_mem ha
    have h4 : 0 < m.length := List.length_pos_of_mem ha
    simp only [List.length_cons]
    omega
section
variable {σ : Type} {D : Dv σ} {E : Dev D} {w : World} {F : Nat → Prop} {pb mb cap : Nat} {bk : Int → Nat} {s : PS}
set_option maxRecDepth 100000 in
set_option maxHeartbeats 1600000 in
theorem has_raw (hA : PAt E w F pb mb bk cap s) :
    Calls Try.prog 14 #[.pointer (some ⟨pb, 0, none⟩)] w fun e w' => ∃ v, e = .returned v ∧ w'.ownsRow w.heap.size 3 1 v s.ks.length (icells s.ks) ∧ Below w.heap.size w w' := by
  obtain ⟨ii, hi0, hz0, hz1, hz2⟩ := info_parts infoInt
  obtain ⟨_, _, _, _, c4, _, _, _⟩ := hA.cells
  have hks := hA.ok.rise
  have hfew := hA.ok.few
  have hmb := hA.map.lt
  have hM := hA.map
  replace hM := Lib.hid hM
  replace hks := Lib.hid hks
  clear hA
  generalize s.ks = ks at *
  go_enter Try.func14, Try.ntmps14
  go_wp2_with (at_range; refine wpList_pmap_range rfl _ rfl rfl hM.out ?_; intro w3 cnt hR hg3 hs3)
  go_frame
  have hR0 := Lib.hid hR
  have hb3 := Lib.hid ((Below.refl w.heap.size w).grown hg3 (Nat.le_refl _) (fun j e => by cases e))
  clear hR hg3 c4 hM
  go_loopg [3] cnt (fun g v wr => ∃ done : List Int, Aside (PRange wr mb w.heap.size ks done g ∧ wr.ownsRow (w.heap.size + 1) 3 1 v done.length (icells done) ∧ done.Nodup ∧ (∀ x ∈ done, x ∈ ks) ∧ Below w.heap.size w wr ∧ w.heap.size + 1 ≤ wr.heap.size))
  case atStart => exact ⟨[], hR0.out, World.ownsRow_nil _ _ _ _, List.nodup_nil, fun x hx => (by cases hx), hb3.out, by omega⟩
  case round =>
    obtain ⟨done, hI⟩ := hrel
    obtain ⟨i1, i3, i5, i6, i7, i8⟩ := hI.out
    obtain ⟨ao, co, rfl, _⟩ := IAt.own i3
    have hdl := nodup_len done ks i5 i6
    have I3 := Lib.hid i3
    have I5 := Lib.hid i5
    have I6 := Lib.hid i6
    have I7 := Lib.hid i7
    clear hI i3 i5 i6 i7 hR0 hb3
    go_wp2_with (at_next; refine wpList_pmap_next rfl _ rfl rfl i1 ?_ ?_)
    · intro hdone
      have hst := sorted_ks hks.out I5.out I6.out hdone
      have hlen : done.length = ks.length := Nat.le_antisymm hdl (nodup_len ks done hks.out.nodup hdone)
      replace hlen := Lib.hid hlen
      clear i1
      rcases (show done = [] ∨ done ≠ [] by by_cases e : done = []; exact .inl e; exact .inr e) with h0 | h0
      · subst h0
        have h1 : ks = [] := List.eq_nil_of_length_eq_zero hlen.out.symm
        replace hst := Lib.hid hst
        replace h1 := Lib.hid h1
        clear hdl
        go_wp2_with fail
        refine (Go.Proofs.Try.slices_Sort_int_none ao co _).mono ?_
        rintro e w5 ⟨rfl, rfl⟩
        go_wp2
        go_ret
        rw [h1.out]
        exact ⟨_, rfl, row_base I3.out (by omega), I7.out⟩
      · rcases I3.out.2 with ⟨e1, e2⟩ | ⟨g6, c6, cur6, e1, hg6, hh6, hn6, hm6, hz6, ht6⟩
        · exact absurd (List.eq_nil_of_length_eq_zero e2) h0
        · injection e1 with e1 e2 e3
          subst e1 e3
          have hH := holds_of_blockI hh6 (by rw [show done.length = done.length * 1 by omega]; exact ht6)
          have hpl := (List.mergeSort_perm done (fun x y => decide (x ≤ y))).length_eq
          have hrow := fun n os => ownsRow_sortedI (os := os) (n := n) (w := wr) (base := w.heap.size) (ts := done.mergeSort fun x y => decide (x ≤ y)) (ss := done) hpl (by omega) hh6 hn6 hm6 hz6
          have hgr := fun n os => grownBy_sortedI (w := wr) (g := g6) (n := n) (os := os) (done.mergeSort fun x y => decide (x ≤ y)).toArray
          have hg7 := lt_of hh6
          replace hst := Lib.hid hst
          replace hrow := Lib.hid hrow
          replace hgr := Lib.hid hgr
          replace hh6 := Lib.hid hh6
          clear ht6 hz6 e2
          go_wp2_with fail
          refine (Go.Proofs.Try.slices_Sort_int g6 0 co done _ hH hg7 (by omega)).mono ?_
          rintro e w5 ⟨rfl, n5, os5, rfl⟩
          have hb5 := Lib.hid (I7.out.grown (hgr.out n5 os5) I7.out.size (fun j e => by cases e; omega))
          have hw5 := Lib.hid (hrow.out n5 os5)
          generalize grow (putRow (Value.int .i64) (Sort.ahead wr n5) g6 0 (done.mergeSort fun x y => decide (x ≤ y)).toArray) os5 = w6 at hb5 hw5 ⊢
          go_wp2
          go_ret
          refine ⟨_, rfl, ?_, hb5.out⟩
          have := hw5.out
          rw [hst.out] at this
          rw [← hlen.out]
          exact this
    · intro x cx w4 cnt4 hxw hxa hxd hR4 hlt4 hg4 hs4 hen
      have ho4 := (Chg.grown (S := fun j => j = w.heap.size) (Chg.refl _ _) hg4 (fun j _ e => by cases e; rfl)).row I3.out (fun j hj e => by have := (I3.out.lt j hj).1; omega)
      have hb4 := I7.out.grown hg4 I7.out.size (fun j e => by cases e; exact Nat.le_refl _)
      have hdn : (done ++ [x]).Nodup := List.nodup_append.2 ⟨I5.out, by simp, fun y hy z hz e => hxd (by rw [List.mem_singleton.1 hz] at e; rw [← e]; exact hy)⟩
      have hda : ∀ y ∈ done ++ [x], y ∈ ks := fun y hy => (List.mem_append.1 hy).elim (I6.out y) (fun e => by rw [List.mem_singleton.1 e]; exact hxa)
      have hI4 : Hid (PRange w4 mb w.heap.size ks (done ++ [x]) cnt4 ∧ Below w.heap.size w w4 ∧ w.heap.size + 1 ≤ w4.heap.size) := Lib.hid ⟨hR4, hb4, by omega⟩
      replace hdn := Lib.hid hdn
      replace hda := Lib.hid hda
      replace hxa := Lib.hid hxa
      replace hxd := Lib.hid hxd
      replace ho4 := Lib.hid ho4
      replace hs4 := Lib.hid hs4
      clear hR4 hb4 i1 I3 I7 I6 I5 hg4
      go_wp2_with (at_builtin; refine wpList_append_own' rfl (.tmp 16) (.tmp 18) 30 rfl (w.heap.size + 1) 3 ii (.int .i64 0) 1 8 Try.underlying30 hi0 hz0 hz1 hz2 rfl (by decide) _ _ _ rfl ((Chg.of_below ((Below.refl _ _).alloc (Nat.le_refl _) _)).row ho4.out (fun _ _ => id)) ⟨w4.heap.size, 0, none⟩ 1 1 (icells [x]) rfl rfl (new_one _ rfl) (icells_one _) (by unfold maxLen; omega) (by omega) (by have := hI4.out.2.2; simp; omega) ?_; intro v5 w5 hown' hgrow hrow; go_frame)
      go_roundg cnt4
      case measure => exact hlt4
      case rel =>
        obtain ⟨j1, j3, j4⟩ := hI4.out
        refine ⟨done ++ [x], (j1.kept (World.grownBy_alloc w4 _ none) (by simp) (by simp)).kept hgrow ?_ ?_, by rw [icells_append, List.length_append]; exact hown', hdn.out, hda.out, (j3.alloc j3.size _).grown hgrow (by have := j3.size; simp; omega) (fun j e => by have := (ho4.out.lt j e).1; omega), by have := hgrow.size; simp at this; omega⟩
        · intro e; have := (ho4.out.lt _ e.symm).1; omega
        · intro e; have := (ho4.out.lt _ e.symm).1; omega
end
end Go.Proofs.Ytlbeaoglkhfdcaa
