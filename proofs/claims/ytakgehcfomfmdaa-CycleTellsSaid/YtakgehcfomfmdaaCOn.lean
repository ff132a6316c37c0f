/- Who is on a cycle with one. No condition. -/
import Derived.Test.YtakgehcfomfmdaaCReach
import Derived.Test.YtakgehcfomfmdaaShelf
import Derived.Sort.OwnSortedInts
import Derived.Deep.RegionHeld3
namespace Go.Proofs.Ytakgehcfomfmdaa
open Go.RowKit Go.Maps Go.WideShapes Go.Sort

theorem MapSet.look {w : World} {b : Nat} {acc : List Int} (h : MapSet w b acc) {z : Int} (hz : (Lit.int .i64 z).wf = true) : (Instr.lookup 54 (.map (some b)) (.int .i64 z) false).run Try.prog w = .ok (.bool (decide (z ∈ acc))) w := by
  obtain ⟨D, h1, h2, _⟩ := h
  obtain ⟨v, ps, hrun, hv⟩ := h1.lookup lawInt Try.underlying54 (zeroB w) (plainElem_bool Try.underlying4 false) (keyOf_int_mk Try.underlying3 hz)
  obtain ⟨c, rfl, hc⟩ := plainElem_bool_inv hv
  rw [h2 z hz] at hc
  simp only [Prod.mk.injEq, DataW.lit.injEq, Lit.bool.injEq] at hc
  rw [← hc.1] at hrun
  exact hrun
/-- A set is ranged over: those in done have come. -/
def SetRange (w : World) (b r : Nat) (acc done : List Int) (cnt : Nat) : Prop :=
  ∃ (D : DataW Unit) (left : Lit → Bool), w.ranges Try.prog 3 (plainElem Try.prog 4) b r acc.length D left cnt ∧ (∀ x, (Lit.int .i64 x).wf = true → D.atKey (.int .i64 x) (.lit (.bool false)) = .lit (.bool (decide (x ∈ acc)))) ∧ (∀ x, Maps.has D (.int .i64 x) = decide (x ∈ acc)) ∧ (∀ x, left (.int .i64 x) = (decide (x ∈ acc) && decide (x ∉ done)))
theorem SetRange.set {w : World} {b r cnt : Nat} {acc done : List Int} (h : SetRange w b r acc done cnt) : MapSet w b acc := by
  obtain ⟨D, left, h1, h2, h3, _⟩ := h
  exact ⟨D, h1.owns, h2, h3⟩
theorem SetRange.kept {w w' : World} {b r cnt : Nat} {acc done : List Int} {row : Option Nat} (h : SetRange w b r acc done cnt) (hg : w.grownBy w' row) (hb : some b ≠ row) (hr : some r ≠ row) : SetRange w' b r acc done cnt := by
  obtain ⟨D, left, h1, h2⟩ := h
  exact ⟨D, left, h1.kept hg hb hr, h2⟩
theorem wpList_set_range {w : World} {ops : Array Oper} {rest : List Oper} {o : Oper} {a : Act} {Q : Exit → Act → World → Prop} {b : Nat} {acc : List Int}
    (hg : o.guard = none) (m : Operand) (hop : o.op = Op.range 54 m) (hm : a.eval m = .map (some b)) (h : MapSet w b acc)
    (hK : ∀ w' cnt, SetRange w' b w.heap.size acc [] cnt → w.grownBy w' none → w'.heap.size = w.heap.size + 1 → wpList Try.prog ops Q rest (a.put o.dst (.pointer (some ⟨w.heap.size, 0, none⟩))) w') : wpList Try.prog ops Q (o :: rest) a w := by
  obtain ⟨D, h1, h2, h3⟩ := h
  exact wpList_range_own w hg m 54 hop 3 4 lawInt Try.underlying54 _ b _ D hm h1 (fun w' hr hg hs => hK w' _ ⟨D, _, hr, h2, h3, fun x => by rw [h3 x]; simp⟩ hg hs)
theorem wpList_set_next {w : World} {ops : Array Oper} {rest : List Oper} {o : Oper} {a : Act} {Q : Exit → Act → World → Prop} {b r cnt : Nat} {acc done : List Int}
    (hg : o.guard = none) (it : Operand) (hop : o.op = Op.next it false) (hit : a.eval it = .pointer (some ⟨r, 0, none⟩)) (h : SetRange w b r acc done cnt)
    (hDone : (∀ x ∈ acc, x ∈ done) → wpList Try.prog ops Q rest (a.put o.dst (.tuple #[.bool false])) w)
    (hMore : ∀ (x : Int) (u : Value) (w' : World) (cnt' : Nat), (Lit.int .i64 x).wf = true → x ∈ acc → x ∉ done → SetRange w' b r acc (done ++ [x]) cnt' → cnt' < cnt → w.grownBy w' (some r) → w'.heap.size = w.heap.size →
      (Instr.entry (.pointer (some ⟨r, 0, none⟩))).run Try.prog w' = .ok (.tuple #[.int .i64 x, u]) w' → wpList Try.prog ops Q rest (a.put o.dst (.tuple #[.bool true, .int .i64 x, u])) w') : wpList Try.prog ops Q (o :: rest) a w := by
  obtain ⟨D, left, h1, h2, h3, h4⟩ := h
  refine wpList_next_ranges w hg it hop 3 lawInt (plainElem Try.prog 4) (Value.int .i64) Value.bool (fun key kl hkey => by obtain ⟨x, rfl, _⟩ := Maps.keyOf_int_inv Try.underlying3 hkey; exact ⟨x, rfl⟩) (fun v y hv => by obtain ⟨c, rfl, _⟩ := plainElem_bool_inv hv; exact ⟨c, rfl⟩) b r _ D left cnt hit h1 (fun _ hl => hDone (fun x hx => ?_)) (fun x c kl y w' cnt' hk hl _ _ hr hlt hg1 hs hen => ?_)
  · have := hl (.int .i64 x)
    rw [h4 x] at this
    simpa [hx] using this
  · obtain ⟨x', e, rfl, hwf⟩ := Maps.keyOf_int_inv Try.underlying3 hk
    cases e
    rw [h4 x] at hl
    have hl' : x ∈ acc ∧ x ∉ done := by simpa using hl
    refine hMore x (.bool c) w' cnt' hwf hl'.1 hl'.2 ⟨D, _, hr, h2, h3, fun z => ?_⟩ hlt hg1 hs hen
    rw [h4 z]
    by_cases e : z = x
    · subst e; simp [Lit.sameKey]
    · have e2 : (Lit.int .i64 z).sameKey (.int .i64 x) = false := sameKey_ne (by simpa using e)
      rw [e2]
      simp [e]
theorem onl_of {E : List (Int × Int)} {s : Int} {A B : List Int} (hn : A.Nodup) (hA : ∀ x, x ∈ A ↔ Rt E s x) (hB : ∀ x, x ∈ B ↔ Rt E x s) :
    ∀ done out : List Int, out = done.filter (fun x => decide (s ∈ A) && decide (x ∈ B)) → done.Nodup → (∀ x ∈ done, x ∈ A) → (∀ x ∈ A, x ∈ done) → (out = [] → OnL E s []) ∧ out.Nodup ∧ (∀ x, x ∈ out ↔ Rt E s x ∧ Rt E x s) := by
  intro done out ho hd h1 h2
  have hm : ∀ x, x ∈ out ↔ Rt E s x ∧ Rt E x s := fun x => by
    rw [ho, List.mem_filter]
    simp only [Bool.and_eq_true, decide_eq_true_eq]
    constructor
    · rintro ⟨h3, _, h4⟩
      exact ⟨(hA x).1 (h1 x h3), (hB x).1 h4⟩
    · rintro ⟨h3, h4⟩
      exact ⟨h2 x ((hA x).2 h3), (hA s).2 (h3.trans h4), (hB x).2 h4⟩
  refine ⟨fun e => ⟨List.Pairwise.nil, fun x => by rw [← hm x, e]⟩, ?_, hm⟩
  rw [ho]
  exact hd.sublist List.filter_sublist
/-- The graph's cell, the pairs, what was there. -/
theorem on_more {w0 w w' : World} {G : Nat} {a : Option Addr} {c : Nat} {E : List (Int × Int)} (h : w.cell? ⟨G, 0, none⟩ = some (.slice a E.length c) ∧ Hid (PAt w a E ∧ Below w0.heap.size w0 w)) (hb : Below w.heap.size w w') :
    w'.cell? ⟨G, 0, none⟩ = some (.slice a E.length c) ∧ Hid (PAt w' a E ∧ Below w0.heap.size w0 w') :=
  ⟨cell_more hb h.1, Lib.hid ⟨h.2.out.1.more hb, h.2.out.2.trans (hb.mono h.2.out.2.size)⟩⟩
theorem on_A {w0 w : World} {G : Nat} {a : Option Addr} {c : Nat} {E : List (Int × Int)} {s : Int} (hl : E.length ≤ 1000000) (hs : (Lit.int .i64 s).wf = true) (h : w.cell? ⟨G, 0, none⟩ = some (.slice a E.length c) ∧ Hid (PAt w a E ∧ Below w0.heap.size w0 w)) :
    Calls Try.prog 21 #[.int .i64 s, .func (.func 22) #[.agg #[.slice a E.length c]] #[]] w fun e w' => ∃ acc : List Int, e = .returned (.map (some w.heap.size)) ∧ (w'.cell? ⟨G, 0, none⟩ = some (.slice a E.length c) ∧ Hid (PAt w' a E ∧ Below w0.heap.size w0 w')) ∧ Hid (MapSet w' w.heap.size acc ∧ acc.Nodup ∧ (∀ x, x ∈ acc ↔ Rt E s x) ∧ IWf acc ∧ acc.length ≤ E.length ∧ w0.heap.size ≤ w.heap.size) :=
  (reach_ahead' a c E E rfl s w h.2.out.1 hl hs).mono fun _ _ ⟨acc, he, h1, h2, h3, h4, h5, hb⟩ => ⟨acc, he, on_more h hb, Lib.hid ⟨h1, h2, h3, h4, h5, h.2.out.2.size⟩⟩
theorem on_B {w0 w : World} {G : Nat} {a : Option Addr} {c : Nat} {E : List (Int × Int)} {s : Int} (hl : E.length ≤ 1000000) (hs : (Lit.int .i64 s).wf = true) (h : w.cell? ⟨G, 0, none⟩ = some (.slice a E.length c) ∧ Hid (PAt w a E ∧ Below w0.heap.size w0 w)) :
    Calls Try.prog 21 #[.int .i64 s, .func (.func 23) #[.agg #[.slice a E.length c]] #[]] w fun e w' => ∃ acc : List Int, e = .returned (.map (some w.heap.size)) ∧ (w'.cell? ⟨G, 0, none⟩ = some (.slice a E.length c) ∧ Hid (PAt w' a E ∧ Below w0.heap.size w0 w')) ∧ Hid (MapSet w' w.heap.size acc ∧ acc.Nodup ∧ (∀ x, x ∈ acc ↔ Rt E x s) ∧ IWf acc ∧ acc.length ≤ E.length ∧ Below w.heap.size w w') :=
  (reach_behind' a c E (rev E) rfl s w h.2.out.1 hl hs).mono fun _ _ ⟨acc, he, h1, h2, h3, h4, h5, hb⟩ => ⟨acc, he, on_more h hb, Lib.hid ⟨h1, h2, fun x => (h3 x).trans rt_rev, h4, h5, hb⟩⟩

set_option maxRecDepth 100000 in
set_option maxHeartbeats 1600000 in
theorem on_any (a : Option Addr) (c : Nat) (E : List (Int × Int)) (s : Int) (w : World) (hE : PAt w a E) (hl : E.length ≤ 1000000) (hs : (Lit.int .i64 s).wf = true) :
    Calls Try.prog 12 #[.int .i64 s, .slice a E.length c] w fun e w' => ∃ (v : Value) (l : List Int), e = .returned v ∧ OnL E s l ∧ w'.ownsRow w.heap.size 3 1 v l.length (icells l) ∧ IWf l ∧ l.length ≤ E.length ∧ Below w.heap.size w w' := by
  obtain ⟨ii, hi0, hz0, hz1, hz2⟩ := info_parts infoInt
  have hmf : ∀ (fn : Fn) (first cap : Array Value) (w : World), (Instr.makeFunc fn first cap).run Try.prog w = .ok (.func fn first cap) w := fun _ _ _ _ => rfl
  have S0 : (w.alloc (.cells #[.slice a E.length c] 53)).cell? ⟨w.heap.size, 0, none⟩ = some (.slice a E.length c) ∧ Hid (PAt (w.alloc (.cells #[.slice a E.length c] 53)) a E ∧ Below w.heap.size w (w.alloc (.cells #[.slice a E.length c] 53))) :=
    ⟨cell_of (heap_alloc_new w _) rfl, Lib.hid ⟨hE.more ((Below.refl _ _).alloc (Nat.le_refl _) _), (Below.refl _ _).alloc (Nat.le_refl _) _⟩⟩
  go_enter Try.func12, Try.ntmps12
  go_wp2
  go_region_held3 (fun w' => w'.cell? ⟨w.heap.size, 0, none⟩ = some (.slice a E.length c) ∧ Hid (PAt w' a E ∧ Below w.heap.size w w')) (first | assumption | exact on_more S0 (Below.refl _ _).drew) (first | (have hA2 := hA; clear hA2; go_at_call 21; refine (on_B hl hs (by assumption)).mono ?_; rintro e wB ⟨accB, rfl, hq, hB⟩) | (go_at_call 21; refine (on_A hl hs (by assumption)).mono ?_; rintro e wA ⟨accA, rfl, hq, hA⟩))
  all_goals
    have e0 : (w.alloc (.cells #[.slice a E.length c] 53)).drew.heap.size = w.heap.size + 1 := by simp
    obtain ⟨hA1, hA2, hA3, hA4, hA5, _⟩ := hA.out
    obtain ⟨hB1, hB2, hB3, hB4, hB5, hB6⟩ := hB.out
    rw [e0] at hA1
    have hM1 := Lib.hid (hA1.more hB6)
    have hM2 := Lib.hid hB1
    have hbq := Lib.hid hq.2.out.2
    have hlA : w.heap.size + 1 < wA.heap.size := hA1.lt
    have hlB : wA.heap.size < wB.heap.size := hB1.lt
    have hl1 := onl_of hA2 hA3 hB3
    replace hA2 := Lib.hid hA2
    replace hA3 := Lib.hid hA3
    replace hA4 := Lib.hid hA4
    replace hB2 := Lib.hid hB2
    replace hB3 := Lib.hid hB3
    replace hB4 := Lib.hid hB4
    replace hl1 := Lib.hid hl1
    clear hA hB hq hA1 hB1 hB6 S0 e0
    go_wp2_with (at_range; refine wpList_set_range rfl _ rfl rfl hM1.out ?_; intro w3 cnt hR hg3 hs3)
    go_frame
    have hR0 := Lib.hid hR
    have hM3 := Lib.hid (hM2.out.kept (Chg.grown (S := fun _ => False) (Chg.refl _ _) hg3 (fun j _ e => by cases e)) id)
    have hb3 := Lib.hid (hbq.out.grown hg3 hbq.out.size (fun j e => by cases e))
    clear hR hg3
    go_loopg [8] cnt (fun g v wr => ∃ done out : List Int, out.length ≤ E.length ∧ Aside (SetRange wr (w.heap.size + 1) wB.heap.size accA done g ∧ MapSet wr wA.heap.size accB ∧ wr.ownsRow (wB.heap.size + 1) 3 1 v out.length (icells out) ∧ out = done.filter (fun x => decide (s ∈ accA) && decide (x ∈ accB)) ∧ done.Nodup ∧ (∀ x ∈ done, x ∈ accA) ∧ Below w.heap.size w wr ∧ wB.heap.size + 1 ≤ wr.heap.size))
    case atStart => exact ⟨[], [], by simp, hR0.out, hM3.out, World.ownsRow_nil _ _ _ _, rfl, List.nodup_nil, fun x hx => (by cases hx), hb3.out, by omega⟩
    case round =>
      obtain ⟨done, out, hol, hI⟩ := hrel
      obtain ⟨i1, i2, i3, i4, i5, i6, i7, i8⟩ := hI.out
      obtain ⟨ao, co, rfl, _⟩ := IAt.own i3
      have I2 := Lib.hid i2
      have I3 := Lib.hid i3
      have I4 := Lib.hid i4
      have I5 := Lib.hid i5
      have I6 := Lib.hid i6
      have I7 := Lib.hid i7
      clear hI i2 i3 i4 i5 i6 i7 hM1 hM2 hM3 hR0 hb3
      go_wp2_with (at_next; refine wpList_set_next rfl _ rfl rfl i1 ?_ ?_)
      · intro hdone
        have hL := hl1.out done out I4.out I5.out I6.out hdone
        clear i1
        rcases (show out = [] ∨ out ≠ [] by by_cases e : out = []; exact .inl e; exact .inr e) with h0 | h0
        · have hL0 := Lib.hid (hL.1 h0)
          subst h0
          go_wp2_with fail
          refine (Go.Proofs.Try.slices_Sort_int_none ao co _).mono ?_
          rintro e w5 ⟨rfl, rfl⟩
          go_wp2
          go_ret
          exact ⟨_, [], rfl, hL0.out, row_base I3.out (by have := I7.out.size; omega), fun x hx => (by cases hx), by simp, I7.out⟩
        · rcases I3.out.2 with ⟨e1, e2⟩ | ⟨g6, c6, cur6, e1, hg6, hh6, hn6, hm6, hz6, ht6⟩
          · exact absurd (List.eq_nil_of_length_eq_zero e2) h0
          · injection e1 with e1 e2 e3
            subst e1 e3
            have hH := holds_of_blockI hh6 (by rw [show out.length = out.length * 1 by omega]; exact ht6)
            obtain ⟨hr1, hr2⟩ := rise_sorted hL.2.1
            have hpl := (List.mergeSort_perm out (fun x y => decide (x ≤ y))).length_eq
            have hrow := fun n os => ownsRow_sortedI (os := os) (n := n) (w := wr) (base := w.heap.size) (ts := out.mergeSort fun x y => decide (x ≤ y)) (ss := out) hpl (by have := I7.out.size; omega) hh6 hn6 hm6 hz6
            have hgr := fun n os => grownBy_sortedI (w := wr) (g := g6) (n := n) (os := os) (out.mergeSort fun x y => decide (x ≤ y)).toArray
            have hg7 := lt_of hh6
            replace hrow := Lib.hid hrow
            replace hgr := Lib.hid hgr
            replace hr1 := Lib.hid hr1
            replace hr2 := Lib.hid hr2
            replace hh6 := Lib.hid hh6
            replace hL := Lib.hid hL
            clear ht6 hz6 e2
            go_wp2_with fail
            refine (Go.Proofs.Try.slices_Sort_int g6 0 co out _ hH hg7 (by omega)).mono ?_
            rintro e w5 ⟨rfl, n5, os5, rfl⟩
            have hb5 := Lib.hid (I7.out.grown (hgr.out n5 os5) I7.out.size (fun j e => by cases e; have := I7.out.size; omega))
            have hw5 := Lib.hid (hrow.out n5 os5)
            generalize grow (putRow (Value.int .i64) (Sort.ahead wr n5) g6 0 (out.mergeSort fun x y => decide (x ≤ y)).toArray) os5 = w6 at hb5 hw5 ⊢
            go_wp2
            go_ret
            refine ⟨_, out.mergeSort fun x y => decide (x ≤ y), rfl, ⟨hr1.out, fun x => (hr2.out x).trans (hL.out.2.2 x)⟩, ?_, fun x hx => hA4.out x (hA3.out x |>.2 ((hL.out.2.2 x).1 ((hr2.out x).1 hx)).1), by rw [hpl]; exact hol, hb5.out⟩
            rw [hpl]
            exact hw5.out
      · intro x cx w4 cnt4 hxw hxa hxd hR4 hlt4 hg4 hs4 hen
        have hM4 := I2.out.kept (Chg.grown (S := fun j => j = wB.heap.size) (Chg.refl _ _) hg4 (fun j _ e => by cases e; rfl)) (by omega)
        have ho4 := (Chg.grown (S := fun j => j = wB.heap.size) (Chg.refl _ _) hg4 (fun j _ e => by cases e; rfl)).row I3.out (fun j hj e => by have := (I3.out.lt j hj).1; omega)
        have hb4 := I7.out.grown hg4 I7.out.size (fun j e => by cases e; have := I7.out.size; omega)
        have hk1 := hR4.set.look hs
        have hk2 := hM4.look hxw
        have hdn : (done ++ [x]).Nodup := List.nodup_append.2 ⟨I5.out, by simp, fun y hy z hz e => hxd (by rw [List.mem_singleton.1 hz] at e; rw [← e]; exact hy)⟩
        have hda : ∀ y ∈ done ++ [x], y ∈ accA := fun y hy => (List.mem_append.1 hy).elim (I6.out y) (fun e => by rw [List.mem_singleton.1 e]; exact hxa)
        have hfl : (done ++ [x]).filter (fun x => decide (s ∈ accA) && decide (x ∈ accB)) = out ++ (if (decide (s ∈ accA) && decide (x ∈ accB)) = true then [x] else []) := by
          rw [List.filter_append, ← I4.out]
          by_cases e : (decide (s ∈ accA) && decide (x ∈ accB)) = true <;> simp [e]
        have hxw2 : (Lit.int .i64 x).wf = true := hxw
        have hI4 : Hid (SetRange w4 (w.heap.size + 1) wB.heap.size accA (done ++ [x]) cnt4 ∧ MapSet w4 wA.heap.size accB ∧ Below w.heap.size w w4 ∧ wB.heap.size + 1 ≤ w4.heap.size) := Lib.hid ⟨hR4, hM4, hb4, by omega⟩
        replace hdn := Lib.hid hdn
        replace hda := Lib.hid hda
        replace hxa := Lib.hid hxa
        replace hxd := Lib.hid hxd
        replace ho4 := Lib.hid ho4
        replace hs4 := Lib.hid hs4
        clear hR4 hM4 hb4 i1 I2 I3 I7 I6 I5 hg4
        by_cases d1 : s ∈ accA
        · by_cases d2 : x ∈ accB
          · have hfl2 : (done ++ [x]).filter (fun x => decide (s ∈ accA) && decide (x ∈ accB)) = out ++ [x] := by rw [hfl]; simp [d1, d2]
            have hol2 : (out ++ [x]).length ≤ E.length := by
              refine Nat.le_trans (nodup_len _ accA ?_ (fun y hy => ?_)) hA5
              · rw [← hfl2]; exact hdn.out.sublist (List.filter_sublist)
              · rw [← hfl2] at hy; exact hda.out y (List.mem_filter.1 hy).1
            rw [decide_eq_true d1] at hk1
            rw [decide_eq_true d2] at hk2
            have hol3 : out.length + 1 ≤ E.length := by simpa using hol2
            replace hol2 := Lib.hid hol2
            replace hfl2 := Lib.hid hfl2
            clear d1 d2 hfl
            go_wp2_with (at_builtin; refine wpList_append_own' rfl (.tmp 34) (.tmp 36) 25 rfl (wB.heap.size + 1) 3 ii (.int .i64 0) 1 8 Try.underlying25 hi0 hz0 hz1 hz2 rfl (by decide) _ _ _ rfl ((Chg.of_below ((Below.refl _ _).alloc (Nat.le_refl _) _)).row ho4.out (fun _ _ => id)) ⟨w4.heap.size, 0, none⟩ 1 1 (icells [x]) rfl rfl (new_one _ rfl) (icells_one _) (by unfold maxLen; omega) (by omega) (by have := hI4.out.2.2.2; simp; omega) ?_; intro v5 w5 hown' hgrow hrow; go_frame)
            go_roundg cnt4
            case measure => exact hlt4
            case rel =>
              obtain ⟨j1, j2, j3, j4⟩ := hI4.out
              refine ⟨done ++ [x], out ++ [x], hol2.out, (j1.kept (World.grownBy_alloc w4 _ none) (by simp) (by simp)).kept hgrow ?_ ?_, (j2.more ((Below.refl _ _).alloc (Nat.le_refl _) _)).kept (Chg.grown (S := fun j => wB.heap.size + 1 ≤ j) (Chg.refl _ _) hgrow (fun j _ e => (ho4.out.lt j e).1)) (by omega), by rw [icells_append, List.length_append]; exact hown', hfl2.out.symm, hdn.out, hda.out, (j3.alloc j3.size _).grown hgrow (by have := j3.size; simp; omega) (fun j e => by have := (ho4.out.lt j e).1; have := j3.size; omega), by have := hgrow.size; simp at this; omega⟩
              · intro e; have := (ho4.out.lt _ e.symm).1; omega
              · intro e; have := (ho4.out.lt _ e.symm).1; omega
          · have hfl2 : (done ++ [x]).filter (fun x => decide (s ∈ accA) && decide (x ∈ accB)) = out := by rw [hfl]; simp [d2]
            rw [decide_eq_true d1] at hk1
            rw [decide_eq_false d2] at hk2
            replace hfl2 := Lib.hid hfl2
            clear d1 d2 hfl
            go_wp2
            go_roundg cnt4
            case measure => exact hlt4
            case rel =>
              obtain ⟨j1, j2, j3, j4⟩ := hI4.out
              exact ⟨done ++ [x], out, hol, j1, j2, ho4.out, hfl2.out.symm, hdn.out, hda.out, j3, j4⟩
        · have hfl2 : (done ++ [x]).filter (fun x => decide (s ∈ accA) && decide (x ∈ accB)) = out := by rw [hfl]; simp [d1]
          rw [decide_eq_false d1] at hk1
          replace hfl2 := Lib.hid hfl2
          clear d1 hfl hk2
          go_wp2
          go_roundg cnt4
          case measure => exact hlt4
          case rel =>
            obtain ⟨j1, j2, j3, j4⟩ := hI4.out
            exact ⟨done ++ [x], out, hol, j1, j2, ho4.out, hfl2.out.symm, hdn.out, hda.out, j3, j4⟩
end Go.Proofs.Ytakgehcfomfmdaa
