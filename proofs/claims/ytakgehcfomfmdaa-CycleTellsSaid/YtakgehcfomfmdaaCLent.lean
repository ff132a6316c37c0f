/- Pairs that are lent, with a mark behind them. No condition. -/
import Derived.Test.YtakgehcfomfmdaaCPRow
import Derived.Test.YtakgehcfomfmdaaBkI
namespace Go.Proofs.Ytakgehcfomfmdaa
open Go.RowKit

@[local go_sem high] theorem eql_pair (x1 x2 : Int) (w : World) : (Op.equalIn 10000 43 (.agg #[.int .i64 x1, .int .i64 x2]) (.agg #[.int .i64 x1, .int .i64 x2])).run Try.prog w = .ok true w := by
  have u3 := Try.underlying3
  have a3 := Try.isAgg3
  have z3 := Try.sizeOf3
  rw [show (10000 : Nat) = 9999 + 1 from rfl, Op.equalIn]
  simp only [Sem.run_bind, run_underlying Try.underlying43, Result.andThen_ok]
  simp only [Std.Legacy.Range.forIn_eq_forIn_range', Std.Legacy.Range.size, Nat.sub_zero, Nat.add_sub_cancel, Nat.div_one, List.range'_succ, List.range'_zero, List.forIn_cons, List.forIn_nil]
  go_simp
theorem PAt.rd {w : World} {a : Option Addr} {E : List (Int × Int)} (h : PAt w a E) (c : Nat) : RdAt w (.slice a E.length c) E.length (pcells E) := by
  refine ⟨a, c, rfl, fun j u hj => ?_⟩
  have hl := (List.getElem?_eq_some_iff.1 hj).1
  rw [pcells_length] at hl
  obtain ⟨b, o, e, h1, h2, _⟩ := h (j / 2) (by omega)
  obtain ⟨g1, g2⟩ := pcells_get E (j / 2) (by omega)
  refine ⟨b, o, e, ?_⟩
  rcases Nat.mod_two_eq_zero_or_one j with hm | hm
  · have e2 : j / 2 * 2 = j := by omega
    rw [e2] at g1 h1
    rw [h1, ← g1, hj]
  · have e2 : j / 2 * 2 + 1 = j := by omega
    rw [e2] at g2
    rw [show o + j = o + j / 2 * 2 + 1 by omega, h2, ← g2, hj]
set_option maxHeartbeats 1600000 in
theorem copyP_any (a : Option Addr) (c : Nat) (E : List (Int × Int)) (w : World) (hE : PAt w a E) (hl : E.length ≤ 1000000) :
    Calls Try.prog 20 #[.slice a E.length c] w fun e w' => ∃ v', e = .returned v' ∧ w'.ownsRow w.heap.size 43 2 v' E.length (pcells E) ∧ Below w.heap.size w w' := by
  obtain ⟨ii, hi0, hz0, hz1, hz2⟩ := info_parts infoPair
  have hx := Lib.hid (hE.rd c)
  clear hE
  go_enter Try.func20, Try.ntmps20
  go_wp2_with (at_builtin; refine wpList_append_rd rfl _ _ 22 rfl w.heap.size 43 ii (.agg #[.int .i64 0, .int .i64 0]) 2 16 Try.underlying22 hi0 hz0 hz1 hz2 rfl (by decide) (.slice none 0 0) 0 [] rfl (World.ownsRow_nil _ _ _ _) _ E.length (pcells E) rfl (pcells_length E) (by go_simp; exact hx.out) (pcells_one E) (by unfold maxLen; omega) (by omega) (Nat.le_refl _) ?_; intro v' w3 hp; have hn1 := Lib.hid ((Below.refl w.heap.size w).grown hp.2.1 (Nat.le_refl _) (fun k e => by cases e)); replace hp := Lib.hid hp)
  go_ret
  refine ⟨_, rfl, ?_, hn1.out⟩
  have := hp.out.1
  rwa [Nat.zero_add, List.nil_append] at this
set_option maxRecDepth 100000 in
set_option maxHeartbeats 1600000 in
theorem sameP_yes (a1 a2 : Option Addr) (c1 c2 : Nat) (E : List (Int × Int)) (w : World) (h1 : PAt w a1 E) (h2 : PAt w a2 E) (hl : E.length ≤ 1000000) :
    Calls Try.prog 30 #[.slice a1 E.length c1, .slice a2 E.length c2] w fun e w' => e = .returned (.bool true) ∧ ∃ m, w' = w.drewN m := by
  have hne : ((E.length : Int) != E.length) = false := by simp
  replace h1 := Lib.hid h1
  replace h2 := Lib.hid h2
  go_enter Try.func30, Try.ntmps30
  go_wp2
  go_loopw [5] (fun i wr => ∃ k : Nat, k ≤ E.length ∧ i = .int .i64 k ∧ ∃ m, wr = w.drewN m) (fun i _ => E.length - (intOf i).toNat)
  case atStart => exact ⟨0, Nat.zero_le _, rfl, 0, rfl⟩
  case round =>
    obtain ⟨k, hk, rfl, m, rfl⟩ := hrel
    by_cases hlt : k < E.length
    · obtain ⟨b1, o1, rfl, g1, g2, _⟩ := h1.out k hlt
      obtain ⟨b2, o2, rfl, g3, g4, _⟩ := h2.out k hlt
      obtain ⟨x, hx⟩ : ∃ x, x = E[k].1 := ⟨_, rfl⟩
      obtain ⟨y, hy⟩ : ∃ y, y = E[k].2 := ⟨_, rfl⟩
      rw [← hx] at g1 g3
      rw [← hy] at g2 g4
      clear hx hy
      have hkl : (k : Int) < E.length := by omega
      have g1' : (w.drewN m).cell? ⟨b1, o1 + k * 2, none⟩ = some (.int .i64 x) := g1
      have g2' : (w.drewN m).cell? ⟨b1, o1 + k * 2 + 1, none⟩ = some (.int .i64 y) := g2
      have g3' : (w.drewN m).cell? ⟨b2, o2 + k * 2, none⟩ = some (.int .i64 x) := g3
      have g4' : (w.drewN m).cell? ⟨b2, o2 + k * 2 + 1, none⟩ = some (.int .i64 y) := g4
      go_wp2
      go_quiet (fail)
      go_wp2
      go_roundw
      case rel => exact ⟨k + 1, hlt, by go_num, _, rfl⟩
      case measure => simp [intOf]; omega
    · obtain rfl : k = E.length := by omega
      go_wp2
      go_ret
      exact ⟨rfl, _, rfl⟩
/-- Lent: the pairs, and a mark behind them. -/
def Lent (w : World) (g n : Nat) (E : List (Int × Int)) : Prop := PAt w (some ⟨g, 0, none⟩) E ∧ n = E.length ∧ w.cell? ⟨g, n * 2, none⟩ = some (.int .i64 (-77)) ∧ ∃ u, w.cell? ⟨g, n * 2 + 1, none⟩ = some (.int .i64 u)
theorem Lent.more {w w' : World} {g n : Nat} {E : List (Int × Int)} (h : Lent w g n E) (hb : Below w.heap.size w w') : Lent w' g n E :=
  ⟨h.1.more hb, h.2.1, cell_more hb h.2.2.1, by obtain ⟨u, hu⟩ := h.2.2.2; exact ⟨u, cell_more hb hu⟩⟩
theorem RdAt.new2 {w : World} {b' : Nat} {u x : Value} (t : TypeId) (hb : b' = w.heap.size) : RdAt (w.alloc (.cells #[u, x] t)) (.slice (some ⟨b', 0, none⟩) 1 1) 1 [u, x] := by
  subst hb
  refine ⟨_, _, rfl, fun j y hj => ⟨_, _, rfl, ?_⟩⟩
  match j, hj with
  | 0, hj => cases hj; exact cell_of (heap_alloc_new w _) rfl
  | 1, hj => cases hj; exact cell_of (heap_alloc_new w _) rfl
  | n + 2, hj => simp at hj
theorem lent_of {w3 : World} {base n : Nat} {E : List (Int × Int)} {v3 : Value} (hn : n = E.length) (hwf : PWf E) (h : w3.ownsRow base 43 2 v3 (n + 1) (pcells E ++ [.int .i64 (-77), .int .i64 0])) :
    ∃ g cap, v3 = .slice (some ⟨g, 0, none⟩) (n + 1) cap ∧ n + 1 ≤ cap ∧ base ≤ g ∧ Lent w3 g n E := by
  have h' : w3.ownsRow base 43 2 v3 (n + 1) (pcells (E ++ [(-77, 0)])) := by rw [pcells_append]; exact h
  have hw : PWf (E ++ [(-77, 0)]) := hwf.app (PWf.one rfl rfl)
  rcases h.2 with ⟨_, e⟩ | ⟨g, cap, cur, rfl, hb, _, hc, _⟩
  · omega
  · obtain ⟨a, c, e, hP⟩ := PAt.own h' hw
    simp only [Value.slice.injEq] at e
    obtain ⟨rfl, _, rfl⟩ := e
    refine ⟨g, cap, rfl, hc, hb, fun j hj => ?_, hn, ?_⟩
    · obtain ⟨b, o, e1, q1, q2, q3⟩ := hP j (by simp; omega)
      rw [List.getElem_append_left hj] at q1 q2 q3
      exact ⟨b, o, e1, q1, q2, q3⟩
    · obtain ⟨b, o, e1, q1, q2, _⟩ := hP E.length (by simp)
      cases e1
      simp at q1 q2
      rw [hn]
      exact ⟨q1, _, q2⟩
set_option maxRecDepth 100000 in
set_option maxHeartbeats 1600000 in
theorem lent_any (a : Option Addr) (c : Nat) (E : List (Int × Int)) (w : World) (hE : PAt w a E) (hl : E.length ≤ 100000) :
    Calls Try.prog 11 #[.slice a E.length c] w fun e w' => ∃ g cap, e = .returned (.slice (some ⟨g, 0, none⟩) E.length cap) ∧ E.length + 1 ≤ cap ∧ w.heap.size ≤ g ∧ Lent w' g E.length E ∧ Below w.heap.size w w' := by
  obtain ⟨ii, hi0, hz0, hz1, hz2⟩ := info_parts infoPair
  obtain ⟨n, hn⟩ : ∃ n, n = E.length := ⟨_, rfl⟩
  have hc := Lib.hid (fun w' hb => copyP_any a c E w' (hE.more hb) (by omega))
  have hwf := Lib.hid hE.pwf
  clear hE
  rw [← hn]
  rw [← hn] at hc hl
  replace hn := Lib.hid hn
  have hbl : ∀ w : World, (Instr.build 43 #[(0, .int .i64 (-77))]).run Try.prog w = .ok (.agg #[.int .i64 (-77), .int .i64 0]) w := fun w => run_build w 43 _ _ (by kernel_rfl)
  go_enter Try.func11, Try.ntmps11
  go_wp2_with fail
  refine (hc.out w (Below.refl _ _)).mono ?_
  rintro e w1 ⟨v1, rfl, o1, b1⟩
  replace o1 := Lib.hid o1
  have hb1 := Lib.hid b1
  have hs1 := b1.size
  clear b1
  go_wp2_with (at_builtin; refine wpList_append_rd rfl _ _ 22 rfl w.heap.size 43 ii (.agg #[.int .i64 0, .int .i64 0]) 2 16 Try.underlying22 hi0 hz0 hz1 hz2 rfl (by decide) _ n (pcells E) rfl (o1.out.alloc _) _ 1 [.int .i64 (-77), .int .i64 0] rfl rfl (by go_simp; exact RdAt.new2 _ rfl) (by intro u hu; simp at hu; rcases hu with rfl | rfl <;> rfl) (by unfold maxLen; omega) (by omega) (by simp; omega) ?_; intro v3 w3 hp; have hL := lent_of hn.out hwf.out hp.1; have hb3 := Lib.hid (grow_own o1.out hb1.out hp); clear hp; obtain ⟨g, cap, rfl, hcap, hg, hL⟩ := hL; replace hL := Lib.hid hL)
  go_ret
  exact ⟨g, cap, rfl, hcap, hg, hL.out, hb3.out⟩
set_option maxRecDepth 100000 in
set_option maxHeartbeats 1600000 in
theorem stays_any (g cap : Nat) (a : Option Addr) (c : Nat) (E : List (Int × Int)) (w : World) (hL : Lent w g E.length E) (hcap : E.length + 1 ≤ cap) (hE : PAt w a E) (hl : E.length ≤ 100000) :
    Calls Try.prog 18 #[.slice (some ⟨g, 0, none⟩) E.length cap, .slice a E.length c] w fun e w' => e = .returned (.bool true) ∧ Below w.heap.size w w' := by
  obtain ⟨n, hn⟩ : ∃ n, n = E.length := ⟨_, rfl⟩
  have hc := Lib.hid (sameP_yes (some ⟨g, 0, none⟩) a cap c E w hL.1 hE (by omega))
  obtain ⟨_, _, c1, u, c2⟩ := hL
  rw [← hn] at hc hl hcap c1 c2
  rw [← hn]
  replace hn := Lib.hid hn
  clear hE
  go_enter Try.func18, Try.ntmps18
  go_wp2_with fail
  refine hc.out.mono ?_
  rintro e w1 ⟨rfl, m, hw1⟩
  have c1' : w1.cell? ⟨g, n * 2, none⟩ = some (.int .i64 (-77)) := by rw [hw1]; exact c1
  have c2' : w1.cell? ⟨g, n * 2 + 1, none⟩ = some (.int .i64 u) := by rw [hw1]; exact c2
  have hb1 : Below w.heap.size w w1 := by rw [hw1]; exact bk_drewN (Below.refl _ _) m
  replace hb1 := Lib.hid hb1
  clear hw1 c1 c2
  go_wp2
  go_ret
  exact ⟨rfl, hb1.out⟩
end Go.Proofs.Ytakgehcfomfmdaa
