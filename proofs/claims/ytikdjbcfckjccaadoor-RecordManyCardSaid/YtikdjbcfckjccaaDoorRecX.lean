/- SameInts, SamePatches, SameDirty of the laws. No condition. -/
import Derived.Test.YtikdjbcfckjccaaDoorRecA
import Derived.Deep.LoopGhost
import Derived.Deep.QuietTactic
import Derived.BigQuiet
namespace Go.Proofs.YtikdjbcfckjccaaDoor
open Go.RowKit
theorem drew2 (w : World) (a b : Nat) : ∃ k, (w.drewN a).drewN b = w.drewN k := ⟨a + b, by simp [World.drewN, Nat.add_assoc]⟩
set_option maxRecDepth 100000 in
set_option maxHeartbeats 1600000 in
theorem sameI_any (v1 v2 : Value) (l m : List Int) (w : World) (h1 : IsI w v1 l) (h2 : IsI w v2 m) (hl : l.length ≤ 1000000) :
    Calls Tryd.prog 17 #[v1, v2] w fun e w' => e = .returned (.bool (decide (l = m))) ∧ ∃ n, w' = w.drewN n := by
  obtain ⟨a1, c1, rfl, hA⟩ := h1
  obtain ⟨a2, c2, rfl, hB⟩ := h2
  obtain ⟨r, hr⟩ : ∃ r, r = decide (l = m) := ⟨_, rfl⟩
  rw [← hr]
  replace hA := Lib.hid hA
  replace hB := Lib.hid hB
  by_cases hne : l.length = m.length
  case neg =>
    have hr0 : r = false := by rw [hr, decide_eq_false_iff_not]; intro e; exact hne (by rw [e])
    subst hr0
    have hn : ((l.length : Int) != m.length) = true := by rw [bne_iff_ne]; omega
    clear hr hne
    go_enter Tryd.func17, Tryd.ntmps17
    go_wp2
    go_ret
    exact ⟨rfl, 0, rfl⟩
  case pos =>
    have hn : ((l.length : Int) != m.length) = false := by simp; omega
    replace hr := Lib.hid hr
    replace hne := Lib.hid hne
    go_enter Tryd.func17, Tryd.ntmps17
    go_wp2
    go_loopw [5] (fun i wr => ∃ k : Nat, k ≤ l.length ∧ i = .int .i64 k ∧ Aside (∀ j (hj : j < k) (h1 : j < l.length) (h2 : j < m.length), l[j] = m[j]) ∧ ∃ n, wr = w.drewN n) (fun i _ => l.length - (intOf i).toNat)
    case atStart => exact ⟨0, Nat.zero_le _, rfl, fun j hj => by omega, 0, rfl⟩
    case round =>
      obtain ⟨k, hk, rfl, hI, n, rfl⟩ := hrel
      by_cases hlt : k < l.length
      · have hlt2 : k < m.length := by have := hne.out; omega
        obtain ⟨b1, o1, rfl, g1⟩ := hA.out k hlt
        obtain ⟨b2, o2, rfl, g2⟩ := hB.out k hlt2
        obtain ⟨x, hx⟩ : ∃ x, x = l[k] := ⟨_, rfl⟩
        obtain ⟨y, hy⟩ : ∃ y, y = m[k] := ⟨_, rfl⟩
        rw [← hx] at g1
        rw [← hy] at g2
        have hkk : (0 : Int) ≤ k := by omega
        have hkl : (k : Int) < l.length := by omega
        have hkm : (k : Int) < m.length := by omega
        have g1' : (w.drewN n).cell? ⟨b1, o1 + k, none⟩ = some (.int .i64 x) := g1
        have g2' : (w.drewN n).cell? ⟨b2, o2 + k, none⟩ = some (.int .i64 y) := g2
        replace hI := Lib.hid hI.out
        by_cases hxy : x = y
        · have hI2 : ∀ j (hj : j < k + 1) (h1 : j < l.length) (h2 : j < m.length), l[j] = m[j] := by
            intro j hj h1 h2
            by_cases e : j = k
            · subst e; rw [← hx, ← hy]; exact hxy
            · exact hI.out j (by omega) h1 h2
          replace hI2 := Lib.hid hI2
          have hq : (x == y) = true := by rw [hxy]; exact beq_self_eq_true _
          replace hxy := Lib.hid hxy
          replace hx := Lib.hid hx
          replace hy := Lib.hid hy
          go_wp2
          go_quiet (fail)
          go_wp2
          go_roundw
          case rel => exact ⟨k + 1, hlt, by go_num, hI2.out, _, rfl⟩
          case measure => simp [intOf]; omega
        · have hr0 : r = false := by
            rw [hr.out, decide_eq_false_iff_not]
            intro e
            subst e
            exact hxy (hx.trans hy.symm)
          have hq : (x == y) = false := by rw [beq_eq_false_iff_ne]; exact hxy
          replace hr0 := Lib.hid hr0
          replace hxy := Lib.hid hxy
          replace hx := Lib.hid hx
          replace hy := Lib.hid hy
          go_wp2
          go_quiet (fail)
          go_wp2
          go_ret
          exact ⟨by rw [hr0.out]; rfl, drew2 _ _ _⟩
      · obtain rfl : k = l.length := by omega
        have hr1 : r = true := by
          rw [hr.out, decide_eq_true_eq]
          exact List.ext_getElem hne.out fun j h1 h2 => hI.out j h1 h1 h2
        replace hr1 := Lib.hid hr1
        replace hI := Lib.hid hI.out
        have hll : ¬ ((l.length : Int) < l.length) := by omega
        go_wp2
        go_ret
        exact ⟨by rw [hr1.out]; rfl, _, rfl⟩
end Go.Proofs.YtikdjbcfckjccaaDoor
