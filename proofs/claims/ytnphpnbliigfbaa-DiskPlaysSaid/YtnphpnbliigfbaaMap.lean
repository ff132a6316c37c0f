/- A map from whole numbers to texts that the call itself has made: looked up, stored into, cleared. No condition. -/
import Derived.Test.YtnphpnbliigfbaaProg
import Derived.Test.YtnphpnbliigfbaaBase
import Derived.Maps.OwnSet
import Derived.Maps.StringElems
import Derived.Lib.Strings
import Derived.Outline
import Derived.Handy
namespace Go.Proofs.Ytnphpnbliigfbaa
open Go.RowKit Go.Maps

/-- A string of these bytes. -/
def mk (l : List UInt8) : ByteArray := ⟨l.toArray⟩
theorem mk_size (l : List UInt8) : (mk l).size = l.length := by simp [mk, ByteArray.size]
theorem mk_list (l : List UInt8) : (mk l).data.toList = l := by simp [mk]
theorem mk_of (s : ByteArray) : mk s.data.toList = s := by simp [mk]
@[go_sem] theorem mk_toList (l : List UInt8) : (mk l).toList = l := by rw [Lib.toList_data, mk_list]

def SMap (w : World) (b n : Nat) (f : Nat → Option (List UInt8)) : Prop :=
  ∃ D : DataW Unit, w.ownsMap Try.prog 3 (plainElem Try.prog 9) b n D ∧
    ∀ k : Nat, k ≤ 9223372036854775807 → has D (.int .i64 (k : Int)) = (f k).isSome ∧ ∀ s, f k = some s → ∀ z, D.atKey (.int .i64 (k : Int)) z = .lit (.string s)

theorem nat_wf (k : Nat) (h : k ≤ 9223372036854775807) : (Lit.int .i64 (k : Int)).wf = true := WalkArith.wf_i64 (by omega)
theorem Try.mapKeyed : Keyed Try.prog 3 := int_keyed Try.underlying3

theorem SMap.made (w : World) : SMap (w.alloc (.map #[] 0)) w.heap.size 0 (fun _ => none) :=
  ⟨.map [], World.ownsMap_made _ _ _ _, fun k _ => ⟨rfl, fun s h => by cases h⟩⟩
theorem SMap.chg {S : Nat → Prop} {w w' : World} {b n : Nat} {f : Nat → Option (List UInt8)} (h : SMap w b n f) (c : Chg S w w') (hn : ¬ S b) : SMap w' b n f := by
  obtain ⟨D, ho, hf⟩ := h
  obtain ⟨es, clock, hb, r⟩ := ho
  exact ⟨D, ⟨es, clock, c.heap hb hn, r⟩, hf⟩
theorem SMap.block {w : World} {b n : Nat} {f : Nat → Option (List UInt8)} (h : SMap w b n f) : ∃ es clock, w.heap[b]? = some (.map es clock) := by
  obtain ⟨D, ⟨es, clock, hb, _⟩, _⟩ := h
  exact ⟨es, clock, hb⟩
theorem SMap.congr {w : World} {b n : Nat} {f g : Nat → Option (List UInt8)} (h : SMap w b n f) (e : ∀ k, f k = g k) : SMap w b n g := by
  have : f = g := funext e
  exact this ▸ h

section
variable {w : World} {ops : Array Oper} {rest : List Oper} {o : Oper} {a : Act} {Q : Exit → Act → World → Prop} {b n : Nat} {f : Nat → Option (List UInt8)}
theorem run_smap_look (hs : SMap w b n f) (k : Nat) (hk : k ≤ 9223372036854775807) :
    (Instr.lookup 56 (.map (some b)) (.int .i64 (k : Int)) true).run Try.prog w = .ok (.tuple #[.string (mk ((f k).getD [])), .bool (f k).isSome]) w := by
  obtain ⟨D, ho, hf⟩ := hs
  obtain ⟨h1, h2⟩ := hf k hk
  have hzero : (zeroValue 9).run Try.prog w = .ok (.string ByteArray.empty) w := by kernel_rfl
  obtain ⟨v, ps, hrun, hv⟩ := ho.look_ok Try.mapKeyed Try.underlying56 hzero (plainElem_string (H := Unit) Try.underlying9 (by unfold maxLen; simp)) (keyOf_int_mk Try.underlying3 (nat_wf k hk))
  obtain ⟨s, rfl, hc, _⟩ := plainElem_string_inv Try.underlying9 hv
  have hc := congrArg Prod.fst hc
  simp only at hc
  rw [hrun, h1]
  cases hfk : f k with
  | none =>
    rw [hfk] at h1
    rw [atKey_of_not_has h1] at hc
    have : s = ByteArray.empty := by
      apply ByteArray.ext
      apply Array.ext'
      simpa using hc.symm
    subst this
    rfl
  | some t =>
    rw [h2 t hfk] at hc
    have : s = mk t := by
      simp at hc
      rw [hc, mk_of]
    subst this
    rfl
theorem wpList_smap_put (hg : o.guard = none) (m x v : Operand) (hop : o.op = Op.mapUpdate 56 m x v) (hm : a.eval m = .map (some b)) (hs : SMap w b n f) (hn : n < maxLen) (k : Nat) (s : List UInt8)
    (hx : a.eval x = .int .i64 (k : Int)) (hv : a.eval v = .string (mk s)) (hk : k ≤ 9223372036854775807) (hsl : s.length ≤ maxLen)
    (hK : ∀ w', SMap w' b (n + 1) (fun j => if j = k then some s else f j) → w.grownBy w' (some b) → wpList Try.prog ops Q rest (a.put o.dst undef) w') :
    wpList Try.prog ops Q (o :: rest) a w := by
  obtain ⟨D, ho, hf⟩ := hs
  refine wpList_mapUpdate_own w hg m x v 56 hop 3 9 Try.mapKeyed Try.underlying56 (plainElem Try.prog 9) b n D hm ho hn _ _ _ hx hv (keyOf_int_mk Try.underlying3 (nat_wf k hk)) (.lit (.string s)) [] (by
    have := plainElem_string (H := Unit) (P := Try.prog) Try.underlying9 (s := mk s) (by rw [mk_size]; exact hsl)
    rwa [mk_list] at this) fun w' ho' hgr => hK w' ⟨_, ho', fun j hj => ?_⟩ hgr
  have hkey : WideAt.IsKeyLit (.int .i64 (k : Int)) := (Try.mapKeyed).key (keyOf_int_mk Try.underlying3 (nat_wf k hk))
  by_cases e : j = k
  · subst e
    exact ⟨by simp [has_put_same ho.isMap hkey], fun t ht z => by simp at ht; subst ht; exact atKey_put_same ho.isMap hkey _ _⟩
  · have hne : (Lit.int .i64 (j : Int)) ≠ .int .i64 (k : Int) := by intro h; injection h; omega
    obtain ⟨h1, h2⟩ := hf j hj
    exact ⟨by simp only [if_neg e]; rw [has_put_other hne]; exact h1, fun t ht z => by simp only [if_neg e] at ht; rw [atKey_put_other hne]; exact h2 t ht z⟩
theorem run_smap_clear (hs : SMap w b n f) (ty : TypeId) : ∃ w', (Builtin.clear_ #[56] ty #[.map (some b)]).run Try.prog w = .ok (.tuple #[]) w' ∧ SMap w' b 0 (fun _ => none) ∧ w.grownBy w' (some b) := by
  obtain ⟨D, ⟨es, clock, hb, _⟩, _⟩ := hs
  refine ⟨ChangeMaps.setBlock w b (.map #[] clock), ?_, ⟨.map [], ⟨#[], clock, ChangeMaps.heap_setBlock_same hb _, ⟨by simp, ?_, by simp⟩, Nat.le_refl _, rfl⟩, fun k _ => ⟨rfl, fun s h => by cases h⟩⟩, ⟨rfl, rfl, rfl, by simp [ChangeMaps.setBlock], fun i _ hi => ChangeMaps.heap_setBlock_other hb _ (fun e => hi (by rw [e]))⟩⟩
  · simp [Builtin.clear_, run_underlying Try.underlying56, MapKept.run_getObj_map hb, MapKept.run_setObj_map _ hb, Result.andThen, ChangeMaps.setBlock]
  · simp [MapKept.Stamped]
theorem wpList_smap_clear (hg : o.guard = none) (m : Operand) (hop : o.op = Op.call { callee := Callee.builtin Builtin.clear, args := #[m], argTypes := #[56] }) (hm : a.eval m = .map (some b)) (hs : SMap w b n f)
    (hK : ∀ w', SMap w' b 0 (fun _ => none) → w.grownBy w' (some b) → wpList Try.prog ops Q rest (a.put o.dst (.tuple #[])) w') :
    wpList Try.prog ops Q (o :: rest) a w := by
  refine wpList_plain hg fun K' hK' => ?_
  obtain ⟨w', hrun, r1, r2⟩ := run_smap_clear hs o.type
  unfold Oper.wp
  simp [execOp, hop, resolve, invoke, builtin, hm, hrun, Result.andThen]
  exact hK' _ _ (hK w' r1 r2)
end
end Go.Proofs.Ytnphpnbliigfbaa
