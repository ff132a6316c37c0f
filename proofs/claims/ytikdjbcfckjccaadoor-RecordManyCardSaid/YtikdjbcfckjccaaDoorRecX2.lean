/- SamePatches, SameDirty of the laws; equality of small structs. No condition. -/
import Derived.Test.YtikdjbcfckjccaaDoorRecX
namespace Go.Proofs.YtikdjbcfckjccaaDoor
open Go.RowKit
def eqD (a b : Int × Int) : Bool := decide (a = b)
def eqP (a b : Pt) : Bool := decide (a = b)
def eqC (a b : Cl) : Bool := decide (a = b)
@[local go_sem high] theorem eql_dir (x1 x2 y1 y2 : Int) (w : World) : (binOp .eql 55 (.agg #[.int .i64 x1, .int .i64 x2]) (.agg #[.int .i64 y1, .int .i64 y2])).run Tryd.prog w = .ok (.bool (eqD (x1, x2) (y1, y2))) w := by
  by_cases h1 : x1 = y1
  · subst h1
    by_cases h2 : x2 = y2
    · subst h2
      simp [go_sem, eqD, eqP, eqC]
    · have := beq_eq_false_iff_ne.2 h2
      simp [go_sem, eqD, eqP, eqC, this, h2]
  · have := beq_eq_false_iff_ne.2 h1
    simp [go_sem, eqD, eqP, eqC, this, h1]
@[local go_sem high] theorem eql_pat (x1 x2 y1 y2 : Int) (s t : List UInt8) (w : World) : (binOp .eql 39 (.agg #[.int .i64 x1, .int .i64 x2, .string (mk s)]) (.agg #[.int .i64 y1, .int .i64 y2, .string (mk t)])).run Tryd.prog w = .ok (.bool (eqP ⟨x1, x2, s⟩ ⟨y1, y2, t⟩)) w := by
  by_cases h1 : x1 = y1
  · subst h1
    by_cases h2 : x2 = y2
    · subst h2
      by_cases h3 : s = t
      · subst h3
        simp [go_sem, eqD, eqP, eqC]
      · have := beq_eq_false_iff_ne.2 h3
        simp [go_sem, eqD, eqP, eqC, this, h3]
    · have := beq_eq_false_iff_ne.2 h2
      simp [go_sem, eqD, eqP, eqC, this, h2]
  · have := beq_eq_false_iff_ne.2 h1
    simp [go_sem, eqD, eqP, eqC, this, h1]
@[local go_sem high] theorem eql_cell (x3 x4 y3 y4 : Int) (x1 x2 y1 y2 : List UInt8) (w : World) : (binOp .eql 23 (.agg #[.string (mk x1), .string (mk x2), .int .i64 x3, .int .i64 x4]) (.agg #[.string (mk y1), .string (mk y2), .int .i64 y3, .int .i64 y4])).run Tryd.prog w = .ok (.bool (eqC ⟨x1, x2, x3, x4⟩ ⟨y1, y2, y3, y4⟩)) w := by
  by_cases h1 : x1 = y1
  · subst h1
    by_cases h2 : x2 = y2
    · subst h2
      by_cases h3 : x3 = y3
      · subst h3
        by_cases h4 : x4 = y4
        · subst h4
          simp [go_sem, eqD, eqP, eqC]
        · have := beq_eq_false_iff_ne.2 h4
          simp [go_sem, eqD, eqP, eqC, this, h4]
      · have := beq_eq_false_iff_ne.2 h3
        simp [go_sem, eqD, eqP, eqC, this, h3]
    · have := beq_eq_false_iff_ne.2 h2
      simp [go_sem, eqD, eqP, eqC, this, h2]
  · have := beq_eq_false_iff_ne.2 h1
    simp [go_sem, eqD, eqP, eqC, this, h1]
set_option maxRecDepth 100000 in
set_option maxHeartbeats 1600000 in
theorem sameD_any (v1 v2 : Value) (l m : List (Int × Int)) (w : World) (h1 : IsD w v1 l) (h2 : IsD w v2 m) (hl : l.length ≤ 1000000) :
    Calls Tryd.prog 32 #[v1, v2] w fun e w' => e = .returned (.bool (decide (l = m))) ∧ ∃ n, w' = w.drewN n := by
  obtain ⟨a1, c1, rfl, hA⟩ := h1
  obtain ⟨a2, c2, rfl, hB⟩ := h2
  obtain ⟨r, hr⟩ : ∃ r, r = decide (l = m) := ⟨_, rfl⟩
  rw [← hr]
  replace hA := Lib.hid hA
  replace hB := Lib.hid hB
  by_cases hne : l.length = m.length
  case neg =>
    have hr0 : r = false := by rw [hr, decide_eq_false_iff_not]; intro e; exact hne (by rw [e])
    subst hr0
    have hn : ((l.length : Int) != m.length) = true := by rw [bne_iff_ne]; omega
    clear hr hne
    go_enter Tryd.func32, Tryd.ntmps32
    go_wp2
    go_ret
    exact ⟨rfl, 0, rfl⟩
  case pos =>
    have hn : ((l.length : Int) != m.length) = false := by simp; omega
    replace hr := Lib.hid hr
    replace hne := Lib.hid hne
    go_enter Tryd.func32, Tryd.ntmps32
    go_wp2
    go_loopw [5] (fun i wr => ∃ k : Nat, k ≤ l.length ∧ i = .int .i64 k ∧ Aside (∀ j (hj : j < k) (h1 : j < l.length) (h2 : j < m.length), l[j] = m[j]) ∧ ∃ n, wr = w.drewN n) (fun i _ => l.length - (intOf i).toNat)
    case atStart => exact ⟨0, Nat.zero_le _, rfl, fun j hj => by omega, 0, rfl⟩
    case round =>
      obtain ⟨k, hk, rfl, hI, n, rfl⟩ := hrel
      by_cases hlt : k < l.length
      · have hlt2 : k < m.length := by have := hne.out; omega
        obtain ⟨b1, o1, rfl, g1, pa1⟩ := hA.out k hlt
        obtain ⟨b2, o2, rfl, g2, pa2⟩ := hB.out k hlt2
        obtain ⟨x, hx⟩ : ∃ x, x = l[k] := ⟨_, rfl⟩
        obtain ⟨y, hy⟩ : ∃ y, y = m[k] := ⟨_, rfl⟩
        rw [← hx] at g1 pa1
        rw [← hy] at g2 pa2
        have hkk : (0 : Int) ≤ k := by omega
        have hkl : (k : Int) < l.length := by omega
        have hkm : (k : Int) < m.length := by omega
        obtain ⟨x1, x2⟩ := x
        obtain ⟨y1, y2⟩ := y
        simp only at g1 g2 pa1 pa2
        have g1' : (w.drewN n).cell? ⟨b1, o1 + k * 2, none⟩ = some (.int .i64 x1) := g1
        have pa1' : (w.drewN n).cell? ⟨b1, o1 + k * 2 + 1, none⟩ = some (.int .i64 x2) := pa1
        have g2' : (w.drewN n).cell? ⟨b2, o2 + k * 2, none⟩ = some (.int .i64 y1) := g2
        have pa2' : (w.drewN n).cell? ⟨b2, o2 + k * 2 + 1, none⟩ = some (.int .i64 y2) := pa2
        replace hI := Lib.hid hI.out
        by_cases hxy : (x1, x2) = (y1, y2)
        · have hI2 : ∀ j (hj : j < k + 1) (h1 : j < l.length) (h2 : j < m.length), l[j] = m[j] := by
            intro j hj h1 h2
            by_cases e : j = k
            · subst e; rw [← hx, ← hy]; exact hxy
            · exact hI.out j (by omega) h1 h2
          replace hI2 := Lib.hid hI2
          have hq : eqD (x1, x2) (y1, y2) = true := decide_eq_true hxy
          replace hxy := Lib.hid hxy
          replace hx := Lib.hid hx
          replace hy := Lib.hid hy
          go_wp2
          go_quiet (fail)
          go_wp2
          go_roundw
          case rel => exact ⟨k + 1, hlt, by go_num, hI2.out, _, rfl⟩
          case measure => simp [intOf]; omega
        · have hr0 : r = false := by
            rw [hr.out, decide_eq_false_iff_not]
            intro e
            subst e
            exact hxy (hx.trans hy.symm)
          have hq : eqD (x1, x2) (y1, y2) = false := decide_eq_false hxy
          replace hr0 := Lib.hid hr0
          replace hxy := Lib.hid hxy
          replace hx := Lib.hid hx
          replace hy := Lib.hid hy
          go_wp2
          go_quiet (fail)
          go_wp2
          go_ret
          exact ⟨by rw [hr0.out]; rfl, drew2 _ _ _⟩
      · obtain rfl : k = l.length := by omega
        have hr1 : r = true := by
          rw [hr.out, decide_eq_true_eq]
          exact List.ext_getElem hne.out fun j h1 h2 => hI.out j h1 h1 h2
        replace hr1 := Lib.hid hr1
        replace hI := Lib.hid hI.out
        have hll : ¬ ((l.length : Int) < l.length) := by omega
        go_wp2
        go_ret
        exact ⟨by rw [hr1.out]; rfl, _, rfl⟩
set_option maxRecDepth 100000 in
set_option maxHeartbeats 1600000 in
theorem sameP_any (v1 v2 : Value) (l m : List Pt) (w : World) (h1 : IsP w v1 l) (h2 : IsP w v2 m) (hl : l.length ≤ 1000000) :
    Calls Tryd.prog 30 #[v1, v2] w fun e w' => e = .returned (.bool (decide (l = m))) ∧ ∃ n, w' = w.drewN n := by
  obtain ⟨a1, c1, rfl, hA⟩ := h1
  obtain ⟨a2, c2, rfl, hB⟩ := h2
  obtain ⟨r, hr⟩ : ∃ r, r = decide (l = m) := ⟨_, rfl⟩
  rw [← hr]
  replace hA := Lib.hid hA
  replace hB := Lib.hid hB
  by_cases hne : l.length = m.length
  case neg =>
    have hr0 : r = false := by rw [hr, decide_eq_false_iff_not]; intro e; exact hne (by rw [e])
    subst hr0
    have hn : ((l.length : Int) != m.length) = true := by rw [bne_iff_ne]; omega
    clear hr hne
    go_enter Tryd.func30, Tryd.ntmps30
    go_wp2
    go_ret
    exact ⟨rfl, 0, rfl⟩
  case pos =>
    have hn : ((l.length : Int) != m.length) = false := by simp; omega
    replace hr := Lib.hid hr
    replace hne := Lib.hid hne
    go_enter Tryd.func30, Tryd.ntmps30
    go_wp2
    go_loopw [5] (fun i wr => ∃ k : Nat, k ≤ l.length ∧ i = .int .i64 k ∧ Aside (∀ j (hj : j < k) (h1 : j < l.length) (h2 : j < m.length), l[j] = m[j]) ∧ ∃ n, wr = w.drewN n) (fun i _ => l.length - (intOf i).toNat)
    case atStart => exact ⟨0, Nat.zero_le _, rfl, fun j hj => by omega, 0, rfl⟩
    case round =>
      obtain ⟨k, hk, rfl, hI, n, rfl⟩ := hrel
      by_cases hlt : k < l.length
      · have hlt2 : k < m.length := by have := hne.out; omega
        obtain ⟨b1, o1, rfl, g1, pa1, pb1⟩ := hA.out k hlt
        obtain ⟨b2, o2, rfl, g2, pa2, pb2⟩ := hB.out k hlt2
        obtain ⟨x, hx⟩ : ∃ x, x = l[k] := ⟨_, rfl⟩
        obtain ⟨y, hy⟩ : ∃ y, y = m[k] := ⟨_, rfl⟩
        rw [← hx] at g1 pa1 pb1
        rw [← hy] at g2 pa2 pb2
        have hkk : (0 : Int) ≤ k := by omega
        have hkl : (k : Int) < l.length := by omega
        have hkm : (k : Int) < m.length := by omega
        obtain ⟨x1, x2, x3⟩ := x
        obtain ⟨y1, y2, y3⟩ := y
        simp only at g1 g2 pa1 pa2 pb1 pb2
        have g1' : (w.drewN n).cell? ⟨b1, o1 + k * 3, none⟩ = some (.int .i64 x1) := g1
        have pa1' : (w.drewN n).cell? ⟨b1, o1 + k * 3 + 1, none⟩ = some (.int .i64 x2) := pa1
        have pb1' : (w.drewN n).cell? ⟨b1, o1 + k * 3 + 2, none⟩ = some (.string (mk x3)) := pb1
        have g2' : (w.drewN n).cell? ⟨b2, o2 + k * 3, none⟩ = some (.int .i64 y1) := g2
        have pa2' : (w.drewN n).cell? ⟨b2, o2 + k * 3 + 1, none⟩ = some (.int .i64 y2) := pa2
        have pb2' : (w.drewN n).cell? ⟨b2, o2 + k * 3 + 2, none⟩ = some (.string (mk y3)) := pb2
        replace hI := Lib.hid hI.out
        by_cases hxy : (⟨x1, x2, x3⟩ : Pt) = (⟨y1, y2, y3⟩ : Pt)
        · have hI2 : ∀ j (hj : j < k + 1) (h1 : j < l.length) (h2 : j < m.length), l[j] = m[j] := by
            intro j hj h1 h2
            by_cases e : j = k
            · subst e; rw [← hx, ← hy]; exact hxy
            · exact hI.out j (by omega) h1 h2
          replace hI2 := Lib.hid hI2
          have hq : eqP ⟨x1, x2, x3⟩ ⟨y1, y2, y3⟩ = true := decide_eq_true hxy
          replace hxy := Lib.hid hxy
          replace hx := Lib.hid hx
          replace hy := Lib.hid hy
          go_wp2
          go_quiet (fail)
          go_wp2
          go_roundw
          case rel => exact ⟨k + 1, hlt, by go_num, hI2.out, _, rfl⟩
          case measure => simp [intOf]; omega
        · have hr0 : r = false := by
            rw [hr.out, decide_eq_false_iff_not]
            intro e
            subst e
            exact hxy (hx.trans hy.symm)
          have hq : eqP ⟨x1, x2, x3⟩ ⟨y1, y2, y3⟩ = false := decide_eq_false hxy
          replace hr0 := Lib.hid hr0
          replace hxy := Lib.hid hxy
          replace hx := Lib.hid hx
          replace hy := Lib.hid hy
          go_wp2
          go_quiet (fail)
          go_wp2
          go_ret
          exact ⟨by rw [hr0.out]; rfl, drew2 _ _ _⟩
      · obtain rfl : k = l.length := by omega
        have hr1 : r = true := by
          rw [hr.out, decide_eq_true_eq]
          exact List.ext_getElem hne.out fun j h1 h2 => hI.out j h1 h1 h2
        replace hr1 := Lib.hid hr1
        replace hI := Lib.hid hI.out
        have hll : ¬ ((l.length : Int) < l.length) := by omega
        go_wp2
        go_ret
        exact ⟨by rw [hr1.out]; rfl, _, rfl⟩
end Go.Proofs.YtikdjbcfckjccaaDoor
