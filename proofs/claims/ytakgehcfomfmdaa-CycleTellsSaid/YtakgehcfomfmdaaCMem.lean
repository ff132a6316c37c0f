/- Rows of numbers, a set of numbers as a map, two rows beside one another. No condition. -/
import Derived.Test.YtakgehcfomfmdaaBase
import Derived.Test.YtakgehcfomfmdaaCPlain
import Derived.Test.YtakgehcfomfmdaaProg
import Derived.Maps.Own
import Derived.Maps.OwnOps
import Derived.Maps.OwnSet
import Derived.Maps.RangeWalk
import Derived.Maps.Views
namespace Go.Proofs.Ytakgehcfomfmdaa
open Go.RowKit Go.Maps Go.WideShapes

/-- A row of pairs. -/
def PAt (w : World) (a : Option Addr) (E : List (Int × Int)) : Prop :=
  ∀ j (h : j < E.length), ∃ b o, a = some ⟨b, o, none⟩ ∧ w.cell? ⟨b, o + j * 2, none⟩ = some (.int .i64 E[j].1) ∧ w.cell? ⟨b, o + j * 2 + 1, none⟩ = some (.int .i64 E[j].2) ∧ (Lit.int .i64 E[j].1).wf = true ∧ (Lit.int .i64 E[j].2).wf = true
theorem cell_more {w w' : World} {a : Addr} {v : Value} (hb : Below w.heap.size w w') (h : w.cell? a = some v) : w'.cell? a = some v :=
  (World.cell?_of_block (w := w) (hb.block _ (World.block_lt_of_cell? w _ h))).trans h
theorem PAt.more {w w' : World} {a : Option Addr} {E : List (Int × Int)} (h : PAt w a E) (hb : Below w.heap.size w w') : PAt w' a E := fun j hj => by
  obtain ⟨b, o, e, h1, h2, h3⟩ := h j hj
  exact ⟨b, o, e, cell_more hb h1, cell_more hb h2, h3⟩
def IWf (l : List Int) : Prop := ∀ x ∈ l, (Lit.int .i64 x).wf = true
theorem PAt.wf1 {w : World} {a : Option Addr} {E : List (Int × Int)} (h : PAt w a E) : IWf (E.map (·.1)) := fun x hx => by
  obtain ⟨p, hp, rfl⟩ := List.mem_map.1 hx
  obtain ⟨j, hj, rfl⟩ := List.getElem_of_mem hp
  obtain ⟨_, _, _, _, _, h3, _⟩ := h j hj
  exact h3
theorem PAt.wf2 {w : World} {a : Option Addr} {E : List (Int × Int)} (h : PAt w a E) : IWf (E.map (·.2)) := fun x hx => by
  obtain ⟨p, hp, rfl⟩ := List.mem_map.1 hx
  obtain ⟨j, hj, rfl⟩ := List.getElem_of_mem hp
  obtain ⟨_, _, _, _, _, _, h3⟩ := h j hj
  exact h3

/-- A row of numbers. -/
def icells (l : List Int) : List Value := l.map fun x => .int .i64 x
theorem icells_length (l : List Int) : (icells l).length = l.length := by simp [icells]
theorem icells_append (l m : List Int) : icells (l ++ m) = icells l ++ icells m := by simp [icells]
theorem icells_one (l : List Int) : ∀ u ∈ icells l, u.oneCell' = true := by
  intro u hu
  obtain ⟨x, _, rfl⟩ := List.mem_map.1 hu
  rfl
theorem infoInt : (Try.prog.info? 3).map (fun i => (i.zero, i.size, i.bytes)) = some (some (.int .i64 0), 1, 8) := by kernel_rfl
def IAt (w : World) (a : Option Addr) (l : List Int) : Prop := ∀ j (h : j < l.length), ∃ b o, a = some ⟨b, o, none⟩ ∧ w.cell? ⟨b, o + j, none⟩ = some (.int .i64 l[j])
theorem IAt.more {w w' : World} {a : Option Addr} {l : List Int} (h : IAt w a l) (hb : Below w.heap.size w w') : IAt w' a l := fun j hj => by
  obtain ⟨b, o, e, h1⟩ := h j hj
  exact ⟨b, o, e, cell_more hb h1⟩
theorem IAt.own {w : World} {base : Nat} {v : Value} {n : Nat} {l : List Int} (h : w.ownsRow base 3 1 v n (icells l)) : ∃ a c, v = .slice a l.length c ∧ IAt w a l := by
  have hn : n = l.length := by have := h.1; rw [icells_length] at this; omega
  subst hn
  rcases h.2 with ⟨rfl, h0⟩ | ⟨g, cap, cur, rfl, _⟩
  · exact ⟨none, 0, by rw [h0], fun j hj => by omega⟩
  · refine ⟨_, _, rfl, fun j hj => ⟨g, 0, rfl, ?_⟩⟩
    rw [Nat.zero_add, h.cellAt j (by omega)]
    simp [icells, List.getElem?_eq_getElem hj]
theorem new_one {w : World} {b' : Nat} {x : Int} (t : TypeId) (hb : b' = w.heap.size) : ∀ j u, [Value.int .i64 x][j]? = some u → (w.alloc (.cells #[.int .i64 x] t)).cell? (Addr.add ⟨b', 0, none⟩ j) = some u := by
  subst hb
  intro j u hj
  match j, hj with
  | 0, hj =>
    cases hj
    rw [Addr.add_lit]
    exact cell_of (heap_alloc_new w _) rfl
  | n + 1, hj => simp at hj

/-- Two rows. -/
def Two (base : Nat) (w : World) (v1 : Value) (l1 : List Int) (v2 : Value) (l2 : List Int) : Prop :=
  w.ownsRow base 3 1 v1 l1.length (icells l1) ∧ w.ownsRow base 3 1 v2 l2.length (icells l2) ∧ (∀ k, v1.ownBlock = some k → v2.ownBlock ≠ some k)
theorem Two.swap {base : Nat} {w : World} {v1 v2 : Value} {l1 l2 : List Int} (h : Two base w v1 l1 v2 l2) : Two base w v2 l2 v1 l1 := ⟨h.2.1, h.1, fun k h1 h2 => h.2.2 k h2 h1⟩
theorem Two.turned {base k : Nat} {w w' : World} {v1 v2 : Value} {l1 l2 : List Int} (h : Two base w v1 l1 v2 l2) (hg : w.grownBy w' (some k)) (hk : k < base) : Two base w' v1 l1 v2 l2 :=
  ⟨(Chg.grown (S := fun j => j = k) (Chg.refl _ w) hg (fun j _ e => by cases e; rfl)).row h.1 (fun j hj e => by have := (h.1.lt j hj).1; omega),
   (Chg.grown (S := fun j => j = k) (Chg.refl _ w) hg (fun j _ e => by cases e; rfl)).row h.2.1 (fun j hj e => by have := (h.2.1.lt j hj).1; omega), h.2.2⟩
theorem Two.more {base : Nat} {w w' : World} {v1 v2 : Value} {l1 l2 : List Int} (h : Two base w v1 l1 v2 l2) (hb : Below w.heap.size w w') : Two base w' v1 l1 v2 l2 :=
  ⟨(Chg.of_below hb).row h.1 (fun _ _ => id), (Chg.of_below hb).row h.2.1 (fun _ _ => id), h.2.2⟩
theorem Two.grow {base : Nat} {w w' : World} {v1 v1' v2 : Value} {l1 m1 l2 : List Int} {n : Nat} (h : Two base w v1 l1 v2 l2) (hown : w'.ownsRow base 3 1 v1' (l1.length + n) (icells l1 ++ icells m1)) (hn : n = m1.length) (hg : w.grownBy w' v1.ownBlock) (hl : v1'.ownBlock = v1.ownBlock ∨ ∀ k, v1'.ownBlock = some k → w.heap.size ≤ k) :
    Two base w' v1' (l1 ++ m1) v2 l2 := by
  subst hn
  obtain ⟨h1, h2, h3⟩ := h
  refine ⟨?_, ?_, fun k hk hk2 => ?_⟩
  · rw [List.length_append, icells_append]; exact hown
  · refine (Chg.grown (S := fun k => v1.ownBlock = some k) (Chg.refl _ w) hg (fun k _ e => e)).row h2 (fun k hk he => h3 k he hk)
  · rcases hl with hl | hl
    · rw [hl] at hk; exact h3 k hk hk2
    · have := hl k hk
      have := (h2.lt k hk2).2
      omega

/-! ### a set of numbers -/
theorem lawInt : Keyed Try.prog 3 := int_keyed Try.underlying3
theorem zeroB (w : World) : (zeroValue 4).run Try.prog w = .ok (.bool false) w := by kernel_rfl
theorem plainElem_bool_inv {v : Value} {z : DataW Unit × List MemPlace} (h : plainElem Try.prog 4 v = some z) : ∃ x, v = .bool x ∧ z = (.lit (.bool x), []) := by
  cases v with
  | bool x => simp [plainElem, Try.underlying4] at h; exact ⟨x, rfl, h.symm⟩
  | _ => simp [plainElem, Try.underlying4] at h
def MapSet (w : World) (b : Nat) (acc : List Int) : Prop :=
  ∃ D : DataW Unit, w.ownsMap Try.prog 3 (plainElem Try.prog 4) b acc.length D ∧ (∀ x, (Lit.int .i64 x).wf = true → D.atKey (.int .i64 x) (.lit (.bool false)) = .lit (.bool (decide (x ∈ acc)))) ∧ (∀ x, Maps.has D (.int .i64 x) = decide (x ∈ acc))
theorem MapSet.made (w : World) : MapSet (w.alloc (.map #[] 0)) w.heap.size [] :=
  ⟨.map [], World.ownsMap_made _ _ _ _, fun x _ => rfl, fun x => rfl⟩
theorem MapSet.lt {w : World} {b : Nat} {acc : List Int} (h : MapSet w b acc) : b < w.heap.size := by
  obtain ⟨D, h1, _⟩ := h
  exact h1.lt
theorem MapSet.kept {w w' : World} {b : Nat} {acc : List Int} {S : Nat → Prop} (h : MapSet w b acc) (hc : Chg S w w') (hn : ¬ S b) : MapSet w' b acc := by
  obtain ⟨D, ⟨es, clock, hb, r⟩, h2⟩ := h
  exact ⟨D, ⟨es, clock, hc.heap hb hn, r⟩, h2⟩
theorem MapSet.more {w w' : World} {b : Nat} {acc : List Int} (h : MapSet w b acc) (hb : Below w.heap.size w w') : MapSet w' b acc :=
  h.kept (S := fun _ => False) (Chg.of_below hb) id
theorem wpList_set_look {w : World} {ops : Array Oper} {rest : List Oper} {o : Oper} {a : Act} {Q : Exit → Act → World → Prop} {b : Nat} {acc : List Int}
    (hg : o.guard = none) (m x : Operand) (hop : o.op = Op.lookup 54 m x false) (hm : a.eval m = .map (some b)) (h : MapSet w b acc) (z : Int) (hx : a.eval x = .int .i64 z) (hz : (Lit.int .i64 z).wf = true)
    (hK : wpList Try.prog ops Q rest (a.put o.dst (.bool (decide (z ∈ acc)))) w) : wpList Try.prog ops Q (o :: rest) a w := by
  obtain ⟨D, h1, h2, _⟩ := h
  refine wpList_plain hg fun K' hK' => ?_
  obtain ⟨v, ps, hrun, hv⟩ := h1.lookup lawInt Try.underlying54 (zeroB w) (plainElem_bool Try.underlying4 false) (keyOf_int_mk Try.underlying3 hz)
  obtain ⟨c, rfl, hc⟩ := plainElem_bool_inv hv
  rw [h2 z hz] at hc
  simp only [Prod.mk.injEq, DataW.lit.injEq, Lit.bool.injEq] at hc
  rw [← hc.1] at hrun
  unfold Oper.wp execOp
  simp only [hop, hm, hx, hrun, Sem.run_bind, Sem.run_pure, Result.andThen_ok]
  exact hK' _ _ hK
theorem wpList_set_add {w : World} {ops : Array Oper} {rest : List Oper} {o : Oper} {a : Act} {Q : Exit → Act → World → Prop} {b : Nat} {acc : List Int}
    (hg : o.guard = none) (m x v : Operand) (hop : o.op = Op.mapUpdate 54 m x v) (hm : a.eval m = .map (some b)) (h : MapSet w b acc) (hl : acc.length < 1000000000) (z : Int) (hx : a.eval x = .int .i64 z) (hv : a.eval v = .bool true) (hz : (Lit.int .i64 z).wf = true)
    (hK : ∀ w', MapSet w' b (acc ++ [z]) → w.grownBy w' (some b) → wpList Try.prog ops Q rest (a.put o.dst undef) w') : wpList Try.prog ops Q (o :: rest) a w := by
  obtain ⟨D, h1, h2, h3⟩ := h
  refine wpList_mapUpdate_own w hg m x v 54 hop 3 4 lawInt Try.underlying54 _ b _ D hm h1 (by unfold maxLen; omega) _ _ (.int .i64 z) hx hv (keyOf_int_mk Try.underlying3 hz) (.lit (.bool true)) [] (plainElem_bool Try.underlying4 true) ?_
  intro w' hown hgrow
  refine hK w' ⟨_, by rw [List.length_append]; exact hown, fun x hxw => ?_, fun x => ?_⟩ hgrow
  · by_cases e : x = z
    · subst e
      rw [atKey_put_same h1.isMap (lawInt.key (keyOf_int_mk Try.underlying3 hz))]
      simp
    · rw [atKey_put_other (by simpa using e), h2 x hxw]
      simp [e]
  · by_cases e : x = z
    · subst e
      rw [has_put_same h1.isMap (lawInt.key (keyOf_int_mk Try.underlying3 hz))]
      simp
    · rw [has_put_other (by simpa using e), h3 x]
      simp [e]
end Go.Proofs.Ytakgehcfomfmdaa
