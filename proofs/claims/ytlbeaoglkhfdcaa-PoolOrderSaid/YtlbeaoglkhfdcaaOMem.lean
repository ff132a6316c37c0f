/- A map of pointers to frames; a pool in memory; a call of a function value that is handed in. No condition. -/
import Derived.Test.YtlbeaoglkhfdcaaBase
import Derived.Test.YtlbeaoglkhfdcaaOPlain
import Derived.Test.YtlbeaoglkhfdcaaProg
import Derived.Maps.Own
import Derived.Maps.OwnOps
import Derived.Maps.OwnSet
import Derived.Maps.RangeWalk
import Derived.Maps.Views
namespace Go.Proofs.Ytlbeaoglkhfdcaa
open Go.RowKit Go.Maps Go.WideShapes

theorem cell_more {w w' : World} {a : Addr} {v : Value} (hb : Below w.heap.size w w') (h : w.cell? a = some v) : w'.cell? a = some v :=
  (World.cell?_of_block (w := w) (hb.block _ (World.block_lt_of_cell? w _ h))).trans h
theorem lawInt : Keyed Try.prog 3 := int_keyed Try.underlying3
/-- How a pointer to a frame reads: by its block. -/
def ptrElem : Value → Option (DataW Unit × List MemPlace)
  | .pointer (some ⟨b, 0, none⟩) => some (.lit (.int .i64 b), [])
  | .pointer none => some (.nil, [])
  | _ => none
theorem ptrElem_inv {v : Value} {y : DataW Unit × List MemPlace} (h : ptrElem v = some y) : (∃ b : Nat, v = .pointer (some ⟨b, 0, none⟩) ∧ y = (.lit (.int .i64 b), [])) ∨ (v = .pointer none ∧ y = (.nil, [])) := by
  unfold ptrElem at h
  split at h
  · cases h; exact .inl ⟨_, rfl, rfl⟩
  · cases h; exact .inr ⟨rfl, rfl⟩
  · cases h
theorem zeroF (w : World) : (zeroValue 63).run Try.prog w = .ok (.pointer none) w := by kernel_rfl
/-- The map in block b: its keys, the block of the frame of each. -/
def PMap (w : World) (b : Nat) (ks : List Int) (bk : Int → Nat) : Prop :=
  ∃ D : DataW Unit, ∃ n, n ≤ 1000000000 ∧ w.ownsMap Try.prog 3 ptrElem b n D ∧ Maps.size D = ks.length ∧ (∀ x, Maps.has D (.int .i64 x) = decide (x ∈ ks)) ∧ (∀ x ∈ ks, D.atKey (.int .i64 x) .nil = .lit (.int .i64 (bk x)))
section
variable {w w' : World} {b : Nat} {ks : List Int} {bk : Int → Nat}
theorem PMap.made (w : World) (bk : Int → Nat) : PMap (w.alloc (.map #[] 0)) w.heap.size [] bk :=
  ⟨.map [], 0, by omega, World.ownsMap_made _ _ _ _, rfl, fun x => rfl, fun x hx => by cases hx⟩
theorem PMap.lt (h : PMap w b ks bk) : b < w.heap.size := by
  obtain ⟨D, n, _, h1, _⟩ := h
  exact h1.lt
theorem PMap.block (h : PMap w b ks bk) : ∃ es c, w.heap[b]? = some (.map es c) := by
  obtain ⟨D, n, _, ⟨es, clock, hb, _⟩, _⟩ := h
  exact ⟨es, clock, hb⟩
theorem PMap.kept {S : Nat → Prop} (h : PMap w b ks bk) (hc : Chg S w w') (hn : ¬ S b) : PMap w' b ks bk := by
  obtain ⟨D, n, hn0, ⟨es, clock, hb, r⟩, h2⟩ := h
  exact ⟨D, n, hn0, ⟨es, clock, hc.heap hb hn, r⟩, h2⟩
theorem PMap.congr {bk' : Int → Nat} (h : PMap w b ks bk) (e : ∀ x ∈ ks, bk' x = bk x) : PMap w b ks bk' := by
  obtain ⟨D, n, hn0, h1, h2, h3, h4⟩ := h
  exact ⟨D, n, hn0, h1, h2, h3, fun x hx => by rw [e x hx]; exact h4 x hx⟩
theorem PMap.look (h : PMap w b ks bk) {z : Int} (hz : (Lit.int .i64 z).wf = true) :
    (Instr.lookup 60 (.map (some b)) (.int .i64 z) false).run Try.prog w = .ok (.pointer (if z ∈ ks then some ⟨bk z, 0, none⟩ else none)) w := by
  obtain ⟨D, n, _, h1, _, h3, h4⟩ := h
  obtain ⟨v, ps, hrun, hv⟩ := h1.lookup lawInt Try.underlying60 (zeroF w) (show ptrElem (.pointer none) = some (.nil, []) from rfl) (keyOf_int_mk Try.underlying3 hz)
  rw [hrun]
  by_cases hk : z ∈ ks
  · rw [h4 z hk] at hv
    rcases ptrElem_inv hv with ⟨c, rfl, e⟩ | ⟨rfl, e⟩
    · simp only [Prod.mk.injEq, DataW.lit.injEq, Lit.int.injEq] at e
      have e2 : c = bk z := by have := e.1.2; omega
      rw [if_pos hk, e2]
    · simp at e
  · have h5 : Maps.has D (.int .i64 z) = false := by rw [h3 z]; exact decide_eq_false hk
    rw [atKey_of_not_has h5] at hv
    rcases ptrElem_inv hv with ⟨c, rfl, e⟩ | ⟨rfl, e⟩
    · simp at e
    · rw [if_neg hk]
theorem PMap.len (h : PMap w b ks bk) (ty : TypeId) : (Builtin.len_ #[60] ty #[.map (some b)]).run Try.prog w = .ok (.int .i64 ks.length) w := by
  obtain ⟨D, n, _, h1, h2, _⟩ := h
  rw [h1.len Try.underlying60 ty, h2]
theorem PMap.drop (h : PMap w b ks bk) (hN : ks.Nodup) {z : Int} (hz : (Lit.int .i64 z).wf = true) (ty : TypeId) :
    ∃ w', (Builtin.delete_ #[60, 3] ty #[.map (some b), .int .i64 z]).run Try.prog w = .ok (.tuple #[]) w' ∧ PMap w' b (ks.filter fun x => decide (x ≠ z)) bk ∧ w.grownBy w' (some b) := by
  obtain ⟨D, n, hn, h1, h2, h3, h4⟩ := h
  have hT := h1.tidy lawInt
  obtain ⟨w', hrun, ho, ht⟩ := h1.drop lawInt Try.underlying60 (keyOf_int_mk Try.underlying3 hz) ty
  refine ⟨w', hrun, ⟨_, n, hn, ho, ?_, fun x => ?_, fun x hx => ?_⟩, ht.grown⟩
  · have := size_del (k := .int .i64 z) hT
    rw [h3 z] at this
    by_cases hk : z ∈ ks
    · have h6 := len_del hN hk
      simp only [hk, decide_true, if_true] at this
      omega
    · have h6 : ks.filter (fun x => decide (x ≠ z)) = ks := List.filter_eq_self.2 fun x hx => by
        simp only [decide_eq_true_eq]
        exact fun e => hk (e ▸ hx)
      simp only [hk, decide_false] at this
      rw [h6]
      simpa [h2] using this
  · by_cases e : x = z
    · subst e
      rw [has_del_same]
      simp
    · rw [has_del_other (by simpa using e), h3 x]
      simp [e]
  · have hx2 := List.mem_filter.1 hx
    have e : x ≠ z := by simpa using hx2.2
    rw [atKey_del_other (by simpa using e)]
    exact h4 x hx2.1
theorem PMap.store (h : PMap w b ks bk) (hR : Rise ks) (hl : ks.length ≤ 1000000) {z : Int} (hz : (Lit.int .i64 z).wf = true) (g : Nat) :
    ∃ w', (Instr.mapUpdate 60 (.map (some b)) (.int .i64 z) (.pointer (some ⟨g, 0, none⟩))).run Try.prog w = .ok () w' ∧ PMap w' b (insK z ks) (fun x => if x = z then g else bk x) ∧ w.grownBy w' (some b) := by
  obtain ⟨D, n, hn, h1, h2, h3, h4⟩ := h
  have hT := h1.tidy lawInt
  obtain ⟨es, clock, hb, F, hs, hD⟩ := h1
  have hes : es.size = Maps.size D := by rw [hD]; simp [Maps.size, length_sorted]
  have h1' : w.ownsMap Try.prog 3 ptrElem b ks.length D := ⟨es, clock, hb, F, by omega, hD⟩
  obtain ⟨w', hrun, ho, ht⟩ := h1'.store lawInt Try.underlying60 (by unfold maxLen; omega) (keyOf_int_mk Try.underlying3 hz) (show ptrElem (.pointer (some ⟨g, 0, none⟩)) = some (.lit (.int .i64 g), []) from rfl)
  refine ⟨w', hrun, ⟨_, _, by omega, ho, ?_, fun x => ?_, fun x hx => ?_⟩, ht.grown⟩
  · rw [size_put hT, h3 z]
    by_cases hk : z ∈ ks
    · rw [insK_mem hR hk]
      simp [hk, h2]
    · rw [len_insK hk]
      simp [hk, h2]
  · by_cases e : x = z
    · subst e
      rw [has_put_same hT.isMap (lawInt.key (keyOf_int_mk Try.underlying3 hz))]
      simp [mem_insK]
    · rw [has_put_other (by simpa using e), h3 x]
      simp [mem_insK, e]
  · by_cases e : x = z
    · subst e
      rw [atKey_put_same hT.isMap (lawInt.key (keyOf_int_mk Try.underlying3 hz))]
      simp
    · rw [atKey_put_other (by simpa using e)]
      rcases mem_insK.1 hx with e2 | hx
      · exact absurd e2 e
      · rw [h4 x hx]
        simp [e]
end
/-! ### the operations -/
section
variable {w : World} {ops : Array Oper} {rest : List Oper} {o : Oper} {a : Act} {Q : Exit → Act → World → Prop} {b : Nat} {ks : List Int} {bk : Int → Nat}
theorem wpList_pmap_drop (hg : o.guard = none) (m x : Operand) (hop : o.op = Op.call { callee := Callee.builtin Builtin.delete, args := #[m, x], argTypes := #[60, 3] }) (hm : a.eval m = .map (some b)) (h : PMap w b ks bk) (hN : ks.Nodup) (z : Int) (hx : a.eval x = .int .i64 z) (hz : (Lit.int .i64 z).wf = true)
    (hK : ∀ w', PMap w' b (ks.filter fun x => decide (x ≠ z)) bk → w.grownBy w' (some b) → wpList Try.prog ops Q rest (a.put o.dst (.tuple #[])) w') : wpList Try.prog ops Q (o :: rest) a w := by
  refine wpList_plain hg fun K' hK' => ?_
  obtain ⟨w', hrun, h1, h2⟩ := h.drop hN hz o.type
  unfold Oper.wp
  simp [execOp, hop, resolve, invoke, builtin, hm, hx, hrun, Result.andThen]
  exact hK' _ _ (hK w' h1 h2)
theorem wpList_pmap_store (hg : o.guard = none) (m x v : Operand) (hop : o.op = Op.mapUpdate 60 m x v) (hm : a.eval m = .map (some b)) (h : PMap w b ks bk) (hR : Rise ks) (hl : ks.length ≤ 1000000) (z : Int) (hx : a.eval x = .int .i64 z) (hz : (Lit.int .i64 z).wf = true) (g : Nat) (hv : a.eval v = .pointer (some ⟨g, 0, none⟩))
    (hK : ∀ w', PMap w' b (insK z ks) (fun x => if x = z then g else bk x) → w.grownBy w' (some b) → wpList Try.prog ops Q rest (a.put o.dst undef) w') : wpList Try.prog ops Q (o :: rest) a w := by
  refine wpList_plain hg fun K' hK' => ?_
  obtain ⟨w', hrun, h1, h2⟩ := h.store hR hl hz g
  unfold Oper.wp
  simp [execOp, hop, hm, hx, hv, hrun, Result.andThen]
  exact hK' _ _ (hK w' h1 h2)
/-- A call of a function value. -/
theorem wpList_value (hg : o.guard = none) (f : Operand) (args : Array Operand) (ats : Array TypeId) (hop : o.op = Op.call { callee := Callee.value f, args := args, argTypes := ats }) (R : Value) (hf : a.eval f = R) (xs : Array Value) (hx : args.map a.eval = xs) (fn : FuncId) (ys : Array Value) {Post : Ending → World → Prop}
    (hC : ((Deferred.ofValue R xs) >>= fun d => invoke d.target d.args).run Try.prog w = .ok (.enter fn ys) w ∧ Calls Try.prog fn ys w Post) (hK : ∀ e w', Post e w' → ∃ v, e = .returned v ∧ wpList Try.prog ops Q rest (a.put o.dst v) w') : wpList Try.prog ops Q (o :: rest) a w := by
  refine wpList_plain hg fun K' hK' => ?_
  unfold Oper.wp
  have e : (execOp a.eval o).run Try.prog w = .ok (.enter fn ys) w := by
    have h1 := hC.1
    simp only [execOp, hop, resolve, hf, hx]
    exact h1
  rw [e, Oper.upon_enter]
  refine hC.2.mono fun e w' hp => ?_
  obtain ⟨v, rfl, h2⟩ := hK e w' hp
  exact hK' _ _ h2
end
end Go.Proofs.Ytlbeaoglkhfdcaa
