/- SameInts, SamePatches, SameDirty of the laws. No condition. -/
import Derived.Test.YtofejnhnnmnfpaaDoorRNs
import Derived.Deep.LoopGhost
import Derived.Deep.QuietTactic
import Derived.BigQuiet
namespace Go.Proofs.YtofejnhnnmnfpaaDoor.Rc
set_option maxRecDepth 100000
open Go.RowKit
theorem drew2 (w : World) (a b : Nat) : ∃ k, (w.drewN a).drewN b = w.drewN k := ⟨a + b, by simp [World.drewN, Nat.add_assoc]⟩
set_option maxRecDepth 100000 in
set_option maxHeartbeats 1600000 in
theorem sameI_any (v1 v2 : Value) (l m : List Int) (w : World) (h1 : IsI w v1 l) (h2 : IsI w v2 m) (hl : l.length ≤ 1000000) :
    Calls Tryd.prog 42 #[v1, v2] w fun e w' => e = .returned (.bool (decide (l = m))) ∧ ∃ n, w' = w.drewN n := by
  obtain ⟨a1, c1, rfl, hA⟩ := h1
  obtain ⟨a2, c2, rfl, hB⟩ := h2
  obtain ⟨r, hr⟩ : ∃ r, r = decide (l = m) := ⟨_, rfl⟩
  rw [← hr]
  replace hA := Lib.hid hA
  replace hB := Lib.hid hB
  by_cases hne : l.length = m.length
  case neg =>
    have hr0 : r = false := by rw [hr, decide_eq_false_iff_not]; intro e; exact hne (by rw [e])
    subst hr0
    have hn : ((l.length : Int) != m.length) = true := by rw [bne_iff_ne]; omega
    clear hr hne
    go_enter Tryd.func42, Tryd.ntmps42
    go_wp2
    go_ret
    exact ⟨rfl, 0, rfl⟩
  case pos =>
    have hn : ((l.length : Int) != m.length) = false := by simp; omega
    replace hr := Lib.hid hr
    replace hne := Lib.hid hne
    go_enter Tryd.func42, Tryd.ntmps42
    go_wp2
    go_loopw [5] (fun i wr => ∃ k : Nat, k ≤ l.length ∧ i = .int .i64 k ∧ Aside (∀ j (hj : j < k) (h1 : j < l.length) (h2 : j < m.length), l[j] = m[j]) ∧ ∃ n, wr = w.drewN n) (fun i _ => l.length - (intOf i).toNat)
    case atStart => exact ⟨0, Nat.zero_le _, rfl, fun j hj => by omega, 0, rfl⟩
    case round =>
      obtain ⟨k, hk, rfl, hI, n, rfl⟩ := hrel
      by_cases hlt : k < l.length
      · have hlt2 : k < m.length := by have := hne.out; omega
        obtain ⟨b1, o1, rfl, g1⟩ := hA.out k hlt
        obtain ⟨b2, o2, rfl, g2⟩ := hB.out k hlt2
        obtain ⟨x, hx⟩ : ∃ x, x = l[k] := ⟨_, rfl⟩
        obtain ⟨y, hy⟩ : ∃ y, y = m[k] := ⟨_, rfl⟩
        rw [← hx] at g1
        rw [← hy] at g2
        have hkk : (0 : Int) ≤ k := by omega
        have hkl : (k : Int) < l.length := by omega
        have hkm : (k : Int) < m.length := by omega
        have g1' : (w.drewN n).cell? ⟨b1, o1 + k, none⟩ = some (.int .i64 x) := g1
        have g2' : (w.drewN n).cell? ⟨b2, o2 + k, none⟩ = some (.int .i64 y) := g2
        replace hI := Lib.hid hI.out
        by_cases hxy : x = y
        · have hI2 : ∀ j (hj : j < k + 1) (h1 : j < l.length) (h2 : j < m.length), l[j] = m[j] := by
            intro j hj h1 h2
            by_cases e : j = k
            · subst e; rw [← hx, ← hy]; exact hxy
            · exact hI.out j (by omega) h1 h2
          replace hI2 := Lib.hid hI2
          have hq : (x == y) = true := by rw [hxy]; exact beq_self_eq_true _
          replace hxy := Lib.hid hxy
          replace hx := Lib.hid hx
          replace hy := Lib.hid hy
          go_wp2
          go_quiet (fail)
          go_wp2
          go_roundw
          case rel => exact ⟨k + 1, hlt, by go_num, hI2.out, _, rfl⟩
          case measure => simp [intOf]; omega
        · have hr0 : r = false := by
            rw [hr.out, decide_eq_false_iff_not]
            intro e
            subst e
            exact hxy (hx.trans hy.symm)
          have hq : (x == y) = false := by rw [beq_eq_false_iff_ne]; exact hxy
          replace hr0 := Lib.hid hr0
          replace hxy := Lib.hid hxy
          replace hx := Lib.hid hx
          replace hy := Lib.hid hy
          go_wp2
          go_quiet (fail)
          go_wp2
          go_ret
          exact ⟨by rw [hr0.out]; rfl, drew2 _ _ _⟩
      · obtain rfl : k = l.length := by omega
        have hr1 : r = true := by
          rw [hr.out, decide_eq_true_eq]
          exact List.ext_getElem hne.out fun j h1 h2 => hI.out j h1 h1 h2
        replace hr1 := Lib.hid hr1
        replace hI := Lib.hid hI.out
        have hll : ¬ ((l.length : Int) < l.length) := by omega
        go_wp2
        go_ret
        exact ⟨by rw [hr1.out]; rfl, _, rfl⟩
end Go.Proofs.YtofejnhnnmnfpaaDoor.Rc
/- SamePatches, SameDirty of the laws; equality of small structs. No condition. -/
namespace Go.Proofs.YtofejnhnnmnfpaaDoor.Rc
set_option maxRecDepth 100000
open Go.RowKit
def eqD (a b : Int × Int) : Bool := decide (a = b)
def eqP (a b : Pt) : Bool := decide (a = b)
def eqC (a b : Cl) : Bool := decide (a = b)
@[local go_sem high] theorem eql_dir (x1 x2 y1 y2 : Int) (w : World) : (binOp .eql 84 (.agg #[.int .i64 x1, .int .i64 x2]) (.agg #[.int .i64 y1, .int .i64 y2])).run Tryd.prog w = .ok (.bool (eqD (x1, x2) (y1, y2))) w := by
  by_cases h1 : x1 = y1
  · subst h1
    by_cases h2 : x2 = y2
    · subst h2
      simp [go_sem, eqD]
    · have := beq_eq_false_iff_ne.2 h2
      simp [go_sem, eqD, this, h2]
  · have := beq_eq_false_iff_ne.2 h1
    simp [go_sem, eqD, this, h1]
@[local go_sem high] theorem eql_pat (x1 x2 y1 y2 : Int) (s t : List UInt8) (w : World) : (binOp .eql 77 (.agg #[.int .i64 x1, .int .i64 x2, .string (mk s)]) (.agg #[.int .i64 y1, .int .i64 y2, .string (mk t)])).run Tryd.prog w = .ok (.bool (eqP ⟨x1, x2, s⟩ ⟨y1, y2, t⟩)) w := by
  by_cases h1 : x1 = y1
  · subst h1
    by_cases h2 : x2 = y2
    · subst h2
      by_cases h3 : s = t
      · subst h3
        simp [go_sem, eqP]
      · have := beq_eq_false_iff_ne.2 h3
        simp [go_sem, eqP, this, h3]
    · have := beq_eq_false_iff_ne.2 h2
      simp [go_sem, eqP, this, h2]
  · have := beq_eq_false_iff_ne.2 h1
    simp [go_sem, eqP, this, h1]
@[local go_sem high] theorem eql_cell (x3 x4 y3 y4 : Int) (x1 x2 y1 y2 : List UInt8) (w : World) : (binOp .eql 31 (.agg #[.string (mk x1), .string (mk x2), .int .i64 x3, .int .i64 x4]) (.agg #[.string (mk y1), .string (mk y2), .int .i64 y3, .int .i64 y4])).run Tryd.prog w = .ok (.bool (eqC ⟨x1, x2, x3, x4⟩ ⟨y1, y2, y3, y4⟩)) w := by
  by_cases h1 : x1 = y1
  · subst h1
    by_cases h2 : x2 = y2
    · subst h2
      by_cases h3 : x3 = y3
      · subst h3
        by_cases h4 : x4 = y4
        · subst h4
          simp [go_sem, eqC]
        · have := beq_eq_false_iff_ne.2 h4
          simp [go_sem, eqC, this, h4]
      · have := beq_eq_false_iff_ne.2 h3
        simp [go_sem, eqC, this, h3]
    · have := beq_eq_false_iff_ne.2 h2
      simp [go_sem, eqC, this, h2]
  · have := beq_eq_false_iff_ne.2 h1
    simp [go_sem, eqC, this, h1]
set_option maxRecDepth 100000 in
set_option maxHeartbeats 1600000 in
theorem sameD_any (v1 v2 : Value) (l m : List (Int × Int)) (w : World) (h1 : IsD w v1 l) (h2 : IsD w v2 m) (hl : l.length ≤ 1000000) :
    Calls Tryd.prog 45 #[v1, v2] w fun e w' => e = .returned (.bool (decide (l = m))) ∧ ∃ n, w' = w.drewN n := by
  obtain ⟨a1, c1, rfl, hA⟩ := h1
  obtain ⟨a2, c2, rfl, hB⟩ := h2
  obtain ⟨r, hr⟩ : ∃ r, r = decide (l = m) := ⟨_, rfl⟩
  rw [← hr]
  replace hA := Lib.hid hA
  replace hB := Lib.hid hB
  by_cases hne : l.length = m.length
  case neg =>
    have hr0 : r = false := by rw [hr, decide_eq_false_iff_not]; intro e; exact hne (by rw [e])
    subst hr0
    have hn : ((l.length : Int) != m.length) = true := by rw [bne_iff_ne]; omega
    clear hr hne
    go_enter Tryd.func45, Tryd.ntmps45
    go_wp2
    go_ret
    exact ⟨rfl, 0, rfl⟩
  case pos =>
    have hn : ((l.length : Int) != m.length) = false := by simp; omega
    replace hr := Lib.hid hr
    replace hne := Lib.hid hne
    go_enter Tryd.func45, Tryd.ntmps45
    go_wp2
    go_loopw [5] (fun i wr => ∃ k : Nat, k ≤ l.length ∧ i = .int .i64 k ∧ Aside (∀ j (hj : j < k) (h1 : j < l.length) (h2 : j < m.length), l[j] = m[j]) ∧ ∃ n, wr = w.drewN n) (fun i _ => l.length - (intOf i).toNat)
    case atStart => exact ⟨0, Nat.zero_le _, rfl, fun j hj => by omega, 0, rfl⟩
    case round =>
      obtain ⟨k, hk, rfl, hI, n, rfl⟩ := hrel
      by_cases hlt : k < l.length
      · have hlt2 : k < m.length := by have := hne.out; omega
        obtain ⟨b1, o1, rfl, g1, pa1⟩ := hA.out k hlt
        obtain ⟨b2, o2, rfl, g2, pa2⟩ := hB.out k hlt2
        obtain ⟨x, hx⟩ : ∃ x, x = l[k] := ⟨_, rfl⟩
        obtain ⟨y, hy⟩ : ∃ y, y = m[k] := ⟨_, rfl⟩
        rw [← hx] at g1 pa1
        rw [← hy] at g2 pa2
        have hkk : (0 : Int) ≤ k := by omega
        have hkl : (k : Int) < l.length := by omega
        have hkm : (k : Int) < m.length := by omega
        obtain ⟨x1, x2⟩ := x
        obtain ⟨y1, y2⟩ := y
        simp only at g1 g2 pa1 pa2
        have g1' : (w.drewN n).cell? ⟨b1, o1 + k * 2, none⟩ = some (.int .i64 x1) := g1
        have pa1' : (w.drewN n).cell? ⟨b1, o1 + k * 2 + 1, none⟩ = some (.int .i64 x2) := pa1
        have g2' : (w.drewN n).cell? ⟨b2, o2 + k * 2, none⟩ = some (.int .i64 y1) := g2
        have pa2' : (w.drewN n).cell? ⟨b2, o2 + k * 2 + 1, none⟩ = some (.int .i64 y2) := pa2
        replace hI := Lib.hid hI.out
        by_cases hxy : (x1, x2) = (y1, y2)
        · have hI2 : ∀ j (hj : j < k + 1) (h1 : j < l.length) (h2 : j < m.length), l[j] = m[j] := by
            intro j hj h1 h2
            by_cases e : j = k
            · subst e; rw [← hx, ← hy]; exact hxy
            · exact hI.out j (by omega) h1 h2
          replace hI2 := Lib.hid hI2
          have hq : eqD (x1, x2) (y1, y2) = true := decide_eq_true hxy
          replace hxy := Lib.hid hxy
          replace hx := Lib.hid hx
          replace hy := Lib.hid hy
          go_wp2
          go_quiet (fail)
          go_wp2
          go_roundw
          case rel => exact ⟨k + 1, hlt, by go_num, hI2.out, _, rfl⟩
          case measure => simp [intOf]; omega
        · have hr0 : r = false := by
            rw [hr.out, decide_eq_false_iff_not]
            intro e
            subst e
            exact hxy (hx.trans hy.symm)
          have hq : eqD (x1, x2) (y1, y2) = false := decide_eq_false hxy
          replace hr0 := Lib.hid hr0
          replace hxy := Lib.hid hxy
          replace hx := Lib.hid hx
          replace hy := Lib.hid hy
          go_wp2
          go_quiet (fail)
          go_wp2
          go_ret
          exact ⟨by rw [hr0.out]; rfl, drew2 _ _ _⟩
      · obtain rfl : k = l.length := by omega
        have hr1 : r = true := by
          rw [hr.out, decide_eq_true_eq]
          exact List.ext_getElem hne.out fun j h1 h2 => hI.out j h1 h1 h2
        replace hr1 := Lib.hid hr1
        replace hI := Lib.hid hI.out
        have hll : ¬ ((l.length : Int) < l.length) := by omega
        go_wp2
        go_ret
        exact ⟨by rw [hr1.out]; rfl, _, rfl⟩
set_option maxRecDepth 100000 in
set_option maxHeartbeats 1600000 in
theorem sameP_any (v1 v2 : Value) (l m : List Pt) (w : World) (h1 : IsP w v1 l) (h2 : IsP w v2 m) (hl : l.length ≤ 1000000) :
    Calls Tryd.prog 43 #[v1, v2] w fun e w' => e = .returned (.bool (decide (l = m))) ∧ ∃ n, w' = w.drewN n := by
  obtain ⟨a1, c1, rfl, hA⟩ := h1
  obtain ⟨a2, c2, rfl, hB⟩ := h2
  obtain ⟨r, hr⟩ : ∃ r, r = decide (l = m) := ⟨_, rfl⟩
  rw [← hr]
  replace hA := Lib.hid hA
  replace hB := Lib.hid hB
  by_cases hne : l.length = m.length
  case neg =>
    have hr0 : r = false := by rw [hr, decide_eq_false_iff_not]; intro e; exact hne (by rw [e])
    subst hr0
    have hn : ((l.length : Int) != m.length) = true := by rw [bne_iff_ne]; omega
    clear hr hne
    go_enter Tryd.func43, Tryd.ntmps43
    go_wp2
    go_ret
    exact ⟨rfl, 0, rfl⟩
  case pos =>
    have hn : ((l.length : Int) != m.length) = false := by simp; omega
    replace hr := Lib.hid hr
    replace hne := Lib.hid hne
    go_enter Tryd.func43, Tryd.ntmps43
    go_wp2
    go_loopw [5] (fun i wr => ∃ k : Nat, k ≤ l.length ∧ i = .int .i64 k ∧ Aside (∀ j (hj : j < k) (h1 : j < l.length) (h2 : j < m.length), l[j] = m[j]) ∧ ∃ n, wr = w.drewN n) (fun i _ => l.length - (intOf i).toNat)
    case atStart => exact ⟨0, Nat.zero_le _, rfl, fun j hj => by omega, 0, rfl⟩
    case round =>
      obtain ⟨k, hk, rfl, hI, n, rfl⟩ := hrel
      by_cases hlt : k < l.length
      · have hlt2 : k < m.length := by have := hne.out; omega
        obtain ⟨b1, o1, rfl, g1, pa1, pb1⟩ := hA.out k hlt
        obtain ⟨b2, o2, rfl, g2, pa2, pb2⟩ := hB.out k hlt2
        obtain ⟨x, hx⟩ : ∃ x, x = l[k] := ⟨_, rfl⟩
        obtain ⟨y, hy⟩ : ∃ y, y = m[k] := ⟨_, rfl⟩
        rw [← hx] at g1 pa1 pb1
        rw [← hy] at g2 pa2 pb2
        have hkk : (0 : Int) ≤ k := by omega
        have hkl : (k : Int) < l.length := by omega
        have hkm : (k : Int) < m.length := by omega
        obtain ⟨x1, x2, x3⟩ := x
        obtain ⟨y1, y2, y3⟩ := y
        simp only at g1 g2 pa1 pa2 pb1 pb2
        have g1' : (w.drewN n).cell? ⟨b1, o1 + k * 3, none⟩ = some (.int .i64 x1) := g1
        have pa1' : (w.drewN n).cell? ⟨b1, o1 + k * 3 + 1, none⟩ = some (.int .i64 x2) := pa1
        have pb1' : (w.drewN n).cell? ⟨b1, o1 + k * 3 + 2, none⟩ = some (.string (mk x3)) := pb1
        have g2' : (w.drewN n).cell? ⟨b2, o2 + k * 3, none⟩ = some (.int .i64 y1) := g2
        have pa2' : (w.drewN n).cell? ⟨b2, o2 + k * 3 + 1, none⟩ = some (.int .i64 y2) := pa2
        have pb2' : (w.drewN n).cell? ⟨b2, o2 + k * 3 + 2, none⟩ = some (.string (mk y3)) := pb2
        replace hI := Lib.hid hI.out
        by_cases hxy : (⟨x1, x2, x3⟩ : Pt) = (⟨y1, y2, y3⟩ : Pt)
        · have hI2 : ∀ j (hj : j < k + 1) (h1 : j < l.length) (h2 : j < m.length), l[j] = m[j] := by
            intro j hj h1 h2
            by_cases e : j = k
            · subst e; rw [← hx, ← hy]; exact hxy
            · exact hI.out j (by omega) h1 h2
          replace hI2 := Lib.hid hI2
          have hq : eqP ⟨x1, x2, x3⟩ ⟨y1, y2, y3⟩ = true := decide_eq_true hxy
          replace hxy := Lib.hid hxy
          replace hx := Lib.hid hx
          replace hy := Lib.hid hy
          go_wp2
          go_quiet (fail)
          go_wp2
          go_roundw
          case rel => exact ⟨k + 1, hlt, by go_num, hI2.out, _, rfl⟩
          case measure => simp [intOf]; omega
        · have hr0 : r = false := by
            rw [hr.out, decide_eq_false_iff_not]
            intro e
            subst e
            exact hxy (hx.trans hy.symm)
          have hq : eqP ⟨x1, x2, x3⟩ ⟨y1, y2, y3⟩ = false := decide_eq_false hxy
          replace hr0 := Lib.hid hr0
          replace hxy := Lib.hid hxy
          replace hx := Lib.hid hx
          replace hy := Lib.hid hy
          go_wp2
          go_quiet (fail)
          go_wp2
          go_ret
          exact ⟨by rw [hr0.out]; rfl, drew2 _ _ _⟩
      · obtain rfl : k = l.length := by omega
        have hr1 : r = true := by
          rw [hr.out, decide_eq_true_eq]
          exact List.ext_getElem hne.out fun j h1 h2 => hI.out j h1 h1 h2
        replace hr1 := Lib.hid hr1
        replace hI := Lib.hid hI.out
        have hll : ¬ ((l.length : Int) < l.length) := by omega
        go_wp2
        go_ret
        exact ⟨by rw [hr1.out]; rfl, _, rfl⟩
end Go.Proofs.YtofejnhnnmnfpaaDoor.Rc
/- SameTx, SameTxs of the laws. No condition. -/
namespace Go.Proofs.YtofejnhnnmnfpaaDoor.Rc
set_option maxRecDepth 100000
open Go.RowKit
def eqX (a b : Tt) : Bool := decide (a = b)
theorem below_drewN {B : Nat} {w w' : World} (h : Below B w w') (n : Nat) : Below B w (w'.drewN n) := ⟨h.os, h.tape, h.output, h.size, h.block⟩
theorem eqno {r : Bool} {A : Prop} (h : r = true ↔ A) (n : ¬ A) : r = false := by
  rw [← Bool.not_eq_true]; exact fun e => n (h.1 e)
theorem eqas {r : Bool} {A : Prop} [Decidable A] (h : r = true ↔ A) : r = decide A := by
  rw [Bool.eq_iff_iff, decide_eq_true_eq]; exact h
set_option maxHeartbeats 1600000 in
theorem sameX_any (u1 u2 : Value) (t s : Tt) (w : World) (h1 : IsI w u1 t.pages) (h2 : IsI w u2 s.pages) (hl : t.pages.length ≤ 1000000) :
    Calls Tryd.prog 72 #[.agg #[.int .i64 t.tx, .int .i64 t.last, .bool t.com, u1], .agg #[.int .i64 s.tx, .int .i64 s.last, .bool s.com, u2]] w fun e w' => e = .returned (.bool (eqX t s)) ∧ Below w.heap.size w w' := by
  have hb : ∀ o1 o2, Below w.heap.size w ((w.alloc o1).alloc o2) := fun o1 o2 => ((Below.refl _ _).alloc (Nat.le_refl _) o1).alloc (by simp) o2
  replace hb := Lib.hid hb
  obtain ⟨r, hr⟩ : ∃ r, r = eqX t s := ⟨_, rfl⟩
  rw [← hr]
  obtain ⟨x1, x2, x3, x4⟩ := t
  obtain ⟨y1, y2, y3, y4⟩ := s
  simp only at h1 h2 hl ⊢
  have hr' : r = true ↔ (x1 = y1 ∧ x2 = y2 ∧ x3 = y3 ∧ x4 = y4) := by rw [hr, eqX, decide_eq_true_eq, Tt.mk.injEq]
  clear hr
  have C := fun w1 h1 h2 => sameI_any u1 u2 x4 y4 w1 h1 h2 hl
  by_cases q1 : x1 = y1
  case neg =>
    have k1 := beq_eq_false_iff_ne.2 q1
    obtain rfl := eqno hr' (fun e => q1 e.1)
    clear C h1 h2 q1 hr'
    go_enter Tryd.func72, Tryd.ntmps72
    go_wp2
    go_ret
    exact ⟨rfl, hb.out _ _⟩
  subst q1
  by_cases q2 : x2 = y2
  case neg =>
    have k2 := beq_eq_false_iff_ne.2 q2
    obtain rfl := eqno hr' (fun e => q2 e.2.1)
    clear C h1 h2 q2 hr'
    go_enter Tryd.func72, Tryd.ntmps72
    go_wp2
    go_ret
    exact ⟨rfl, hb.out _ _⟩
  subst q2
  by_cases q3 : x3 = y3
  case neg =>
    have k3 := beq_eq_false_iff_ne.2 q3
    obtain rfl := eqno hr' (fun e => q3 e.2.2.1)
    clear C h1 h2 q3 hr'
    go_enter Tryd.func72, Tryd.ntmps72
    go_wp2
    go_ret
    exact ⟨rfl, hb.out _ _⟩
  subst q3
  have hr2 : r = decide (x4 = y4) := eqas (hr'.trans ⟨fun e => e.2.2.2, fun e => ⟨rfl, rfl, rfl, e⟩⟩)
  rw [← hr2] at C
  replace hr2 := Lib.hid hr2
  replace h1 := Lib.hid h1
  replace h2 := Lib.hid h2
  replace C := Lib.hid C
  clear hr'
  go_enter Tryd.func72, Tryd.ntmps72
  go_wp2_with fail
  refine (C.out _ (h1.out.more (hb.out _ _)) (h2.out.more (hb.out _ _))).mono ?_
  rintro e w' ⟨rfl, n, rfl⟩
  go_wp2
  go_ret
  exact ⟨rfl, below_drewN (hb.out _ _) _⟩
set_option maxRecDepth 100000 in
set_option maxHeartbeats 1600000 in
theorem sameT_any (v1 v2 : Value) (l m : List Tt) (w : World) (h1 : IsT w v1 l) (h2 : IsT w v2 m) (hl : l.length ≤ 1000000) (hp : ∀ t ∈ l, t.pages.length ≤ 1000000) :
    Calls Tryd.prog 44 #[v1, v2] w fun e w' => e = .returned (.bool (decide (l = m))) ∧ Below w.heap.size w w' := by
  obtain ⟨a1, c1, rfl, hA⟩ := h1
  obtain ⟨a2, c2, rfl, hB⟩ := h2
  obtain ⟨r, hr⟩ : ∃ r, r = decide (l = m) := ⟨_, rfl⟩
  rw [← hr]
  replace hA := Lib.hid hA
  replace hB := Lib.hid hB
  replace hp := Lib.hid hp
  by_cases hne : l.length = m.length
  case neg =>
    have hr0 : r = false := by rw [hr, decide_eq_false_iff_not]; intro e; exact hne (by rw [e])
    subst hr0
    have hn : ((l.length : Int) != m.length) = true := by rw [bne_iff_ne]; omega
    clear hr hne
    go_enter Tryd.func44, Tryd.ntmps44
    go_wp2
    go_ret
    exact ⟨rfl, Below.refl _ _⟩
  case pos =>
    have hn : ((l.length : Int) != m.length) = false := by simp; omega
    replace hr := Lib.hid hr
    replace hne := Lib.hid hne
    go_enter Tryd.func44, Tryd.ntmps44
    go_wp2
    go_loopw [5] (fun i wr => ∃ k : Nat, k ≤ l.length ∧ i = .int .i64 k ∧ Aside (∀ j (hj : j < k) (h1 : j < l.length) (h2 : j < m.length), l[j] = m[j]) ∧ Aside (Below w.heap.size w wr)) (fun i _ => l.length - (intOf i).toNat)
    case atStart => exact ⟨0, Nat.zero_le _, rfl, fun j hj => by omega, Below.refl _ _⟩
    case round =>
      obtain ⟨k, hk, rfl, hI, hb⟩ := hrel
      by_cases hlt : k < l.length
      · have hlt2 : k < m.length := by have := hne.out; omega
        obtain ⟨b1, o1, u1, rfl, g1, p1, r1, s1, i1⟩ := hA.out k hlt
        obtain ⟨b2, o2, u2, rfl, g2, p2, r2, s2, i2⟩ := hB.out k hlt2
        have C := fun w1 h1 h2 => sameX_any u1 u2 (l[k]'hlt) (m[k]'hlt2) w1 h1 h2 (hp.out _ (List.getElem_mem _))
        obtain ⟨x, hx⟩ : ∃ x, x = l[k] := ⟨_, rfl⟩
        obtain ⟨y, hy⟩ : ∃ y, y = m[k] := ⟨_, rfl⟩
        rw [← hx] at g1 p1 r1 i1
        rw [← hy] at g2 p2 r2 i2
        rw [← hx, ← hy] at C
        obtain ⟨q, hq⟩ : ∃ q, q = eqX x y := ⟨_, rfl⟩
        rw [← hq] at C
        obtain ⟨x1, x2, x3, x4⟩ := x
        obtain ⟨y1, y2, y3, y4⟩ := y
        simp only at g1 p1 r1 i1 g2 p2 r2 i2 C
        have hkk : (0 : Int) ≤ k := by omega
        have hkl : (k : Int) < l.length := by omega
        have hkm : (k : Int) < m.length := by omega
        replace g1 := cell_more hb.out g1
        replace p1 := cell_more hb.out p1
        replace r1 := cell_more hb.out r1
        replace s1 := cell_more hb.out s1
        replace g2 := cell_more hb.out g2
        replace p2 := cell_more hb.out p2
        replace r2 := cell_more hb.out r2
        replace s2 := cell_more hb.out s2
        have C2 := C wr.drew (i1.more hb.out.drew) (i2.more hb.out.drew)
        replace hI := Lib.hid hI.out
        replace C2 := Lib.hid C2
        replace hb := Lib.hid hb.out
        clear i1 i2 C
        cases q with
        | true =>
          have hxy : (⟨x1, x2, x3, x4⟩ : Tt) = ⟨y1, y2, y3, y4⟩ := of_decide_eq_true hq.symm
          have hI2 : ∀ j (hj : j < k + 1) (h1 : j < l.length) (h2 : j < m.length), l[j] = m[j] := by
            intro j hj h1 h2
            by_cases e : j = k
            · subst e; rw [← hx, ← hy]; exact hxy
            · exact hI.out j (by omega) h1 h2
          replace hI2 := Lib.hid hI2
          replace hxy := Lib.hid hxy
          replace hx := Lib.hid hx
          replace hy := Lib.hid hy
          replace hq := Lib.hid hq
          go_wp2
          go_region_with (refine C2.out.mono ?_; rintro e w2 ⟨rfl, hc⟩)
          all_goals
            have hb2 := Lib.hid (hb.out.drew.trans (hc.mono hb.out.size))
            go_wp2
            go_roundw
            case rel => exact ⟨k + 1, hlt, by go_num, hI2.out, hb2.out⟩
            case measure => simp [intOf]; omega
        | false =>
          have hr0 : r = false := by
            rw [hr.out, decide_eq_false_iff_not]
            intro e
            subst e
            have hxy := of_decide_eq_false hq.symm
            exact hxy (hx.trans hy.symm)
          replace hr0 := Lib.hid hr0
          replace hx := Lib.hid hx
          replace hy := Lib.hid hy
          replace hq := Lib.hid hq
          go_wp2
          go_region_with (refine C2.out.mono ?_; rintro e w2 ⟨rfl, hc⟩)
          all_goals
            have hb2 := Lib.hid (hb.out.drew.trans (hc.mono hb.out.size))
            go_wp2
            go_ret
            exact ⟨by rw [hr0.out]; rfl, hb2.out⟩
      · obtain rfl : k = l.length := by omega
        have hr1 : r = true := by
          rw [hr.out, decide_eq_true_eq]
          exact List.ext_getElem hne.out fun j h1 h2 => hI.out j h1 h1 h2
        replace hr1 := Lib.hid hr1
        replace hI := Lib.hid hI.out
        replace hb := Lib.hid hb.out
        have hll : ¬ ((l.length : Int) < l.length) := by omega
        go_wp2
        go_ret
        exact ⟨by rw [hr1.out]; rfl, hb.out⟩
end Go.Proofs.YtofejnhnnmnfpaaDoor.Rc
