/- Maps of the call's own whose elements are texts, or whose keys are. No condition. -/
import Derived.Test.YtlbeaoglkhfdcaaOMem
import Derived.Maps.StringElems
import Derived.StringKeys
namespace Go.Proofs.Ytlbeaoglkhfdcaa
open Go.RowKit Go.Maps Go.WideShapes Go.WideMaps

theorem zeroS (w : World) : (zeroValue 9).run Try.prog w = .ok (.string ByteArray.empty) w := by kernel_rfl
theorem zeroI (w : World) : (zeroValue 3).run Try.prog w = .ok (.int .i64 0) w := by kernel_rfl
theorem lawStr : Keyed Try.prog 9 := string_keyed Try.underlying9
/-- How a text reads. -/
def strElem : Value → Option (DataW Unit × List MemPlace)
  | .string s => some (.lit (.string s.data.toList), [])
  | _ => none
theorem strElem_inv {v : Value} {y : DataW Unit × List MemPlace} (h : strElem v = some y) : ∃ s : ByteArray, v = .string s ∧ y = (.lit (.string s.data.toList), []) := by
  unfold strElem at h
  split at h
  · cases h; exact ⟨_, rfl, rfl⟩
  · cases h
theorem bytes_list {a b : ByteArray} (h : a.data.toList = b.data.toList) : a = b := by
  cases a with | mk x => cases b with | mk y => cases x; cases y; simp_all
/-- The map in block b: at each number a text. -/
def SMap (w : World) (b n : Nat) (f : Int → ByteArray) : Prop :=
  ∃ D : DataW Unit, w.ownsMap Try.prog 3 strElem b n D ∧ ∀ x, (Lit.int .i64 x).wf = true → D.atKey (.int .i64 x) (.lit (.string [])) = .lit (.string (f x).data.toList)
section
variable {w w' : World} {b n : Nat} {f : Int → ByteArray}
theorem SMap.made (w : World) : SMap (w.alloc (.map #[] 0)) w.heap.size 0 (fun _ => ByteArray.empty) := ⟨.map [], World.ownsMap_made _ _ _ _, fun x _ => rfl⟩
theorem SMap.lt (h : SMap w b n f) : b < w.heap.size := by
  obtain ⟨D, h1, _⟩ := h
  exact h1.lt
theorem SMap.kept {S : Nat → Prop} (h : SMap w b n f) (hc : Chg S w w') (hn : ¬ S b) : SMap w' b n f := by
  obtain ⟨D, ⟨es, clock, hb, r⟩, h2⟩ := h
  exact ⟨D, ⟨es, clock, hc.heap hb hn, r⟩, h2⟩
theorem SMap.look (h : SMap w b n f) {z : Int} (hz : (Lit.int .i64 z).wf = true) : (Instr.lookup 55 (.map (some b)) (.int .i64 z) false).run Try.prog w = .ok (.string (f z)) w := by
  obtain ⟨D, h1, h2⟩ := h
  obtain ⟨v, ps, hrun, hv⟩ := h1.lookup lawInt Try.underlying55 (zeroS w) (show strElem (.string ByteArray.empty) = some (.lit (.string []), []) from rfl) (keyOf_int_mk Try.underlying3 hz)
  rw [h2 z hz] at hv
  obtain ⟨s, rfl, e⟩ := strElem_inv hv
  simp only [Prod.mk.injEq, DataW.lit.injEq, Lit.string.injEq] at e
  rw [hrun, bytes_list e.1]
theorem SMap.store (h : SMap w b n f) (hn : n < maxLen) {z : Int} (hz : (Lit.int .i64 z).wf = true) (s : ByteArray) :
    ∃ w', (Instr.mapUpdate 55 (.map (some b)) (.int .i64 z) (.string s)).run Try.prog w = .ok () w' ∧ SMap w' b (n + 1) (fun x => if x = z then s else f x) ∧ w.grownBy w' (some b) := by
  obtain ⟨D, h1, h2⟩ := h
  obtain ⟨w', hrun, ho, ht⟩ := h1.store lawInt Try.underlying55 hn (keyOf_int_mk Try.underlying3 hz) (show strElem (.string s) = some (.lit (.string s.data.toList), []) from rfl)
  refine ⟨w', hrun, ⟨_, ho, fun x hx => ?_⟩, ht.grown⟩
  by_cases e : x = z
  · subst e
    rw [atKey_put_same h1.isMap (lawInt.key (keyOf_int_mk Try.underlying3 hz))]
    simp
  · rw [atKey_put_other (by simpa using e), h2 x hx]
    simp [e]
end
/-- It is ranged over. -/
def SRange (w : World) (b r : Nat) (f : Int → ByteArray) (cnt : Nat) : Prop :=
  ∃ (D : DataW Unit) (left : Lit → Bool) (n : Nat), w.ranges Try.prog 3 strElem b r n D left cnt ∧ ∀ x, (Lit.int .i64 x).wf = true → D.atKey (.int .i64 x) (.lit (.string [])) = .lit (.string (f x).data.toList)
theorem SRange.kept {w w' : World} {b r cnt : Nat} {f : Int → ByteArray} {row : Option Nat} (h : SRange w b r f cnt) (hg : w.grownBy w' row) (hb : some b ≠ row) (hr : some r ≠ row) : SRange w' b r f cnt := by
  obtain ⟨D, left, n, h1, h2⟩ := h
  exact ⟨D, left, n, h1.kept hg hb hr, h2⟩
section
variable {w : World} {ops : Array Oper} {rest : List Oper} {o : Oper} {a : Act} {Q : Exit → Act → World → Prop} {b n : Nat} {f : Int → ByteArray}
theorem wpList_smap_store (hg : o.guard = none) (m x v : Operand) (hop : o.op = Op.mapUpdate 55 m x v) (hm : a.eval m = .map (some b)) (h : SMap w b n f) (hn : n < maxLen) (z : Int) (hx : a.eval x = .int .i64 z) (hz : (Lit.int .i64 z).wf = true) (s : ByteArray) (hv : a.eval v = .string s)
    (hK : ∀ w', SMap w' b (n + 1) (fun x => if x = z then s else f x) → w.grownBy w' (some b) → wpList Try.prog ops Q rest (a.put o.dst undef) w') : wpList Try.prog ops Q (o :: rest) a w := by
  refine wpList_plain hg fun K' hK' => ?_
  obtain ⟨w', hrun, h1, h2⟩ := h.store hn hz s
  unfold Oper.wp
  simp [execOp, hop, hm, hx, hv, hrun, Result.andThen]
  exact hK' _ _ (hK w' h1 h2)
theorem wpList_smap_range (hg : o.guard = none) (m : Operand) (hop : o.op = Op.range 55 m) (hm : a.eval m = .map (some b)) (h : SMap w b n f)
    (hK : ∀ w' cnt, SRange w' b w.heap.size f cnt → w.grownBy w' none → w'.heap.size = w.heap.size + 1 → wpList Try.prog ops Q rest (a.put o.dst (.pointer (some ⟨w.heap.size, 0, none⟩))) w') : wpList Try.prog ops Q (o :: rest) a w := by
  obtain ⟨D, h1, h2⟩ := h
  exact wpList_range_own w hg m 55 hop 3 9 lawInt Try.underlying55 _ b _ D hm h1 (fun w' hr hg hs => hK w' _ ⟨D, _, n, hr, h2⟩ hg hs)
theorem wpList_smap_next {r cnt : Nat} (hg : o.guard = none) (it : Operand) (hop : o.op = Op.next it false) (hit : a.eval it = .pointer (some ⟨r, 0, none⟩)) (h : SRange w b r f cnt)
    (hDone : wpList Try.prog ops Q rest (a.put o.dst (.tuple #[.bool false])) w)
    (hMore : ∀ (x : Int) (w' : World) (cnt' : Nat), (Lit.int .i64 x).wf = true → SRange w' b r f cnt' → cnt' < cnt → w.grownBy w' (some r) → w'.heap.size = w.heap.size →
      (Instr.entry (.pointer (some ⟨r, 0, none⟩))).run Try.prog w' = .ok (.tuple #[.int .i64 x, .string (f x)]) w' → wpList Try.prog ops Q rest (a.put o.dst (.tuple #[.bool true, .int .i64 x, .string (f x)])) w') : wpList Try.prog ops Q (o :: rest) a w := by
  obtain ⟨D, left, n, h1, h4⟩ := h
  refine wpList_next_ranges w hg it hop 3 lawInt strElem (Value.int .i64) Value.string (fun key kl hkey => by obtain ⟨x, rfl, _⟩ := Maps.keyOf_int_inv Try.underlying3 hkey; exact ⟨x, rfl⟩) (fun v y hv => by obtain ⟨c, rfl, _⟩ := strElem_inv hv; exact ⟨c, rfl⟩) b r _ D left cnt hit h1 (fun _ _ => hDone) (fun x c kl y w' cnt' hk _ hv hat hr hlt hg1 hs hen => ?_)
  obtain ⟨x', e, rfl, hwx⟩ := Maps.keyOf_int_inv Try.underlying3 hk
  cases e
  obtain ⟨c', e, rfl⟩ := strElem_inv hv
  cases e
  have e := hat (.lit (.string []))
  rw [h4 x hwx] at e
  simp only [DataW.lit.injEq, Lit.string.injEq] at e
  have e2 := bytes_list e
  subst e2
  exact hMore x w' cnt' hwx ⟨D, _, n, hr, h4⟩ hlt hg1 hs hen
end
/-- The map in block b: at each text a number. -/
def TMap (w : World) (b n : Nat) (f : ByteArray → Int) : Prop :=
  ∃ D : DataW Unit, w.ownsMap Try.prog 9 (plainElem Try.prog 3) b n D ∧ ∀ x : ByteArray, x.size ≤ maxLen → D.atKey (.string x.data.toList) (.lit (.int .i64 0)) = .lit (.int .i64 (f x))
section
variable {w w' : World} {b n : Nat} {f : ByteArray → Int}
theorem TMap.made (w : World) : TMap (w.alloc (.map #[] 0)) w.heap.size 0 (fun _ => 0) := ⟨.map [], World.ownsMap_made _ _ _ _, fun x _ => rfl⟩
theorem TMap.lt (h : TMap w b n f) : b < w.heap.size := by
  obtain ⟨D, h1, _⟩ := h
  exact h1.lt
theorem TMap.kept {S : Nat → Prop} (h : TMap w b n f) (hc : Chg S w w') (hn : ¬ S b) : TMap w' b n f := by
  obtain ⟨D, ⟨es, clock, hb, r⟩, h2⟩ := h
  exact ⟨D, ⟨es, clock, hc.heap hb hn, r⟩, h2⟩
theorem TMap.look (h : TMap w b n f) {z : ByteArray} (hz : z.size ≤ maxLen) : (Instr.lookup 46 (.map (some b)) (.string z) false).run Try.prog w = .ok (.int .i64 (f z)) w := by
  obtain ⟨D, h1, h2⟩ := h
  obtain ⟨v, ps, hrun, hv⟩ := h1.lookup lawStr Try.underlying46 (zeroI w) (plainElem_int Try.underlying3 (a := 0) (by decide)) (keyOf_string_mk Try.underlying9 hz)
  rw [h2 z hz] at hv
  obtain ⟨s, rfl, e, _⟩ := plainElem_int_inv Try.underlying3 hv
  simp only [Prod.mk.injEq, DataW.lit.injEq, Lit.int.injEq] at e
  rw [hrun, e.1.2]
theorem TMap.store (h : TMap w b n f) (hn : n < maxLen) {z : ByteArray} (hz : z.size ≤ maxLen) {s : Int} (hs : (Lit.int .i64 s).wf = true) :
    ∃ w', (Instr.mapUpdate 46 (.map (some b)) (.string z) (.int .i64 s)).run Try.prog w = .ok () w' ∧ TMap w' b (n + 1) (fun x => if x = z then s else f x) ∧ w.grownBy w' (some b) := by
  obtain ⟨D, h1, h2⟩ := h
  obtain ⟨w', hrun, ho, ht⟩ := h1.store lawStr Try.underlying46 hn (keyOf_string_mk Try.underlying9 hz) (plainElem_int Try.underlying3 hs)
  refine ⟨w', hrun, ⟨_, ho, fun x hx => ?_⟩, ht.grown⟩
  by_cases e : x = z
  · subst e
    rw [atKey_put_same h1.isMap (lawStr.key (keyOf_string_mk Try.underlying9 hz))]
    simp
  · rw [atKey_put_other (by simp; exact fun h => e (bytes_list (by simpa using h))), h2 x hx]
    simp [e]
end
section
variable {w : World} {ops : Array Oper} {rest : List Oper} {o : Oper} {a : Act} {Q : Exit → Act → World → Prop} {b n : Nat} {f : ByteArray → Int}
theorem wpList_tmap_store (hg : o.guard = none) (m x v : Operand) (hop : o.op = Op.mapUpdate 46 m x v) (hm : a.eval m = .map (some b)) (h : TMap w b n f) (hn : n < maxLen) (z : ByteArray) (hx : a.eval x = .string z) (hz : z.size ≤ maxLen) (s : Int) (hv : a.eval v = .int .i64 s) (hs : (Lit.int .i64 s).wf = true)
    (hK : ∀ w', TMap w' b (n + 1) (fun x => if x = z then s else f x) → w.grownBy w' (some b) → wpList Try.prog ops Q rest (a.put o.dst undef) w') : wpList Try.prog ops Q (o :: rest) a w := by
  refine wpList_plain hg fun K' hK' => ?_
  obtain ⟨w', hrun, h1, h2⟩ := h.store hn hz hs
  unfold Oper.wp
  simp [execOp, hop, hm, hx, hv, hrun, Result.andThen]
  exact hK' _ _ (hK w' h1 h2)
end
end Go.Proofs.Ytlbeaoglkhfdcaa
