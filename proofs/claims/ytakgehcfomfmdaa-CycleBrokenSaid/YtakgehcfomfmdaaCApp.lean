/- Pairs that are appended to a row of the call's own, out of whatever row, none as well. No condition. -/
import Derived.Test.YtakgehcfomfmdaaCPRow
import Derived.Deep.Upon
namespace Go.Proofs.Ytakgehcfomfmdaa
open Go.RowKit

def Appended (w : World) (base : Nat) (v : Value) (n m : Nat) (F G : List (Int × Int)) (v' : Value) (w' : World) : Prop :=
  w'.ownsRow base 43 2 v' (n + m) (pcells F ++ pcells G) ∧ w.grownBy w' v.ownBlock ∧ (v'.ownBlock = v.ownBlock ∨ ∀ k, v'.ownBlock = some k → w.heap.size ≤ k)
theorem PAt.newsP {w : World} {a : Option Addr} {E : List (Int × Int)} (h : PAt w a E) (hp : 0 < E.length) : ∃ ad, a = some ad ∧ ∀ j u, (pcells E)[j]? = some u → w.cell? (ad.add j) = some u := by
  obtain ⟨b, o, e, _⟩ := h 0 hp
  refine ⟨_, e, fun j u hj => ?_⟩
  have hl := (List.getElem?_eq_some_iff.1 hj).1
  rw [pcells_length] at hl
  obtain ⟨b', o', e', h1, h2, _⟩ := h (j / 2) (by omega)
  rw [e] at e'
  cases e'
  obtain ⟨g1, g2⟩ := pcells_get E (j / 2) (by omega)
  rw [Addr.add_lit]
  rcases Nat.mod_two_eq_zero_or_one j with hm | hm
  · have e2 : j / 2 * 2 = j := by omega
    rw [e2] at g1 h1
    rw [h1, ← g1, hj]
  · have e2 : j / 2 * 2 + 1 = j := by omega
    rw [e2] at g2
    rw [show o + j = o + j / 2 * 2 + 1 by omega, h2, ← g2, hj]
theorem run_append_rows (w : World) (base : Nat) (ty : TypeId) (v : Value) (n : Nat) (F : List (Int × Int)) (hown : w.ownsRow base 43 2 v n (pcells F)) (a : Option Addr) (m c : Nat) (G : List (Int × Int)) (hl : G.length = m) (hG : PAt w a G)
    (hn : n + m ≤ 1000000) (hbase : base ≤ w.heap.size) : ∃ v' w', (Builtin.append_ #[22, 22] ty #[v, .slice a m c]).run Try.prog w = .ok v' w' ∧ Appended w base v n m F G v' w' := by
  subst hl
  obtain ⟨ii, hi0, hz0, hz1, hz2⟩ := info_parts infoPair
  rcases Nat.eq_zero_or_pos G.length with h0 | hp
  · obtain rfl : G = [] := List.eq_nil_of_length_eq_zero h0
    have hsrc : Src Try.prog ii.size 22 (.slice a 0 c) 0 [] w := by
      cases a with
      | none => exact Src.ofNil w Try.underlying22 c
      | some ad => exact Src.ofSlice w Try.underlying22 ad 0 c [] (by simp) (fun j u h => by simp at h) (fun u h => by cases h)
    have hfin : Appended w base v n 0 F [] v w := ⟨by simpa [pcells] using hown, ⟨rfl, rfl, rfl, Nat.le_refl _, fun _ _ _ => rfl⟩, .inl rfl⟩
    rcases hown.2 with ⟨rfl, rfl⟩ | ⟨g, cap, cur, rfl, _, _, hc, _⟩
    · exact ⟨_, w, run_append_nothing w 22 22 ty 43 ii Try.underlying22 hi0 none 0 0 (Nat.le_refl _) _ hsrc, hfin⟩
    · exact ⟨_, w, run_append_nothing w 22 22 ty 43 ii Try.underlying22 hi0 (some ⟨g, 0, none⟩) n cap hc _ hsrc, hfin⟩
  · obtain ⟨ad, rfl, hnews⟩ := hG.newsP hp
    obtain ⟨v', w', h1, h2, h3, h4⟩ := run_append_own' (P := Try.prog) w base 22 ty 43 ii (.agg #[.int .i64 0, .int .i64 0]) 2 16 Try.underlying22 hi0 hz0 hz1 hz2 rfl (by decide) v n (pcells F) hown ad G.length c (pcells G) (pcells_length G) hnews (pcells_one G) (by unfold maxLen; omega) (by omega) hbase
    exact ⟨v', w', h1, h2, h3, h4⟩
section
variable {P : Program} {ops : Array Oper} {o : Oper} {a : Act} {w : World} {Q : Exit → Act → World → Prop} {rest : List Oper}
theorem step_append_run {K : Act → World → Prop} {E : Prop} (hg : o.guard = none) (s x : Operand) (t : TypeId) (hop : o.op = Op.call { callee := Callee.builtin Builtin.append, args := #[s, x], argTypes := #[t, t] })
    (v vx : Value) (hs : a.eval s = v) (hx : a.eval x = vx) (R : Value → World → Prop) (hrun : ∃ v' w', (Builtin.append_ #[t, t] o.type #[v, vx]).run P w = .ok v' w' ∧ R v' w') (hK : ∀ v' w', R v' w' → K (a.put o.dst v') w') :
    if Region.wanted o (yielded ops a.tmps) = true then Oper.wp P o a w K Q else E := by
  have hw : Region.wanted o (yielded ops a.tmps) = true := by simp [Region.wanted, hg]
  rw [if_pos hw]
  obtain ⟨v', w', hr, h⟩ := hrun
  unfold Oper.wp
  simp [execOp, hop, resolve, invoke, builtin, hs, hx, hr, Result.andThen]
  exact hK v' w' h
theorem wpList_append_run (hw : Region.wanted o (yielded ops a.tmps) = true) (s x : Operand) (t : TypeId) (hop : o.op = Op.call { callee := Callee.builtin Builtin.append, args := #[s, x], argTypes := #[t, t] })
    (v vx : Value) (hs : a.eval s = v) (hx : a.eval x = vx) (R : Value → World → Prop) (hrun : ∃ v' w', (Builtin.append_ #[t, t] o.type #[v, vx]).run P w = .ok v' w' ∧ R v' w') (hK : ∀ v' w', R v' w' → wpList P ops Q rest (a.put o.dst v') w') :
    wpList P ops Q (o :: rest) a w := by
  rw [wpList, if_pos hw]
  obtain ⟨v', w', hr, h⟩ := hrun
  left
  unfold Oper.wp
  simp [execOp, hop, resolve, invoke, builtin, hs, hx, hr, Result.andThen]
  exact hK v' w' h
end
end Go.Proofs.Ytakgehcfomfmdaa
