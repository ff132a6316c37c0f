/- The Disk of package disk in memory; what its small methods answer; Write. No condition. -/
import Derived.Test.YtnphpnbliigfbaaMap
import Derived.BigQuiet
import Derived.Deep.QuietTactic
namespace Go.Proofs.Ytnphpnbliigfbaa
open Go.RowKit

/-- A DISK AS PLAIN DATA. -/
structure Dk where
  safe : List (List UInt8)
  pend : List (Nat × List UInt8)
  stops : Bool
  after : Nat
  dead : Bool

/-- What was written last to a sector, and is pending. -/
def latest (l : List (Nat × List UInt8)) (n : Nat) : Option (List UInt8) := (l.reverse.find? (fun p => p.1 == n)).map (·.2)
theorem latest_snoc (l : List (Nat × List UInt8)) (k : Nat) (s : List UInt8) (n : Nat) : latest (l ++ [(k, s)]) n = if n = k then some s else latest l n := by
  unfold latest
  rw [List.reverse_append]
  by_cases h : n = k
  · subst h; simp
  · have : (k == n) = false := by simp; omega
    simp [this, h]
theorem latest_nil (n : Nat) : latest [] n = none := rfl

def scells (l : List (List UInt8)) : List Value := l.map fun s => Value.string (mk s)
def pcells : List (Nat × List UInt8) → List Value
  | [] => []
  | p :: r => Value.int .i64 (p.1 : Int) :: Value.string (mk p.2) :: pcells r
theorem pcells_append (a b : List (Nat × List UInt8)) : pcells (a ++ b) = pcells a ++ pcells b := by
  induction a with
  | nil => rfl
  | cons p a ih => simp [pcells, ih]
theorem pcells_length (a : List (Nat × List UInt8)) : (pcells a).length = a.length * 2 := by
  induction a with
  | nil => rfl
  | cons p a ih => simp [pcells, ih]; omega
theorem pcells_at (a : List (Nat × List UInt8)) : ∀ k (h : k < a.length), (pcells a)[2 * k]? = some (.int .i64 ((a[k]).1 : Int)) ∧ (pcells a)[2 * k + 1]? = some (.string (mk (a[k]).2)) := by
  induction a with
  | nil => intro k h; simp at h
  | cons p a ih =>
    intro k h
    cases k with
    | zero => simp [pcells]
    | succ k =>
      have := ih k (by simpa using h)
      rw [show 2 * (k + 1) = 2 * k + 1 + 1 by omega]
      simpa [pcells] using this

/-- What is fit to lie on a disk. -/
structure Dk.Ok (d : Dk) : Prop where
  few : d.safe.length ≤ 10000
  size : ∀ s ∈ d.safe, s.length = 64
  pend : ∀ p ∈ d.pend, p.1 < d.safe.length ∧ p.2.length = 64
  after : d.after ≤ 9223372036854775807
  many : d.pend.length ≤ 1000000

/-- A DISK IN MEMORY: its block, the rows of its sectors and of its pending writes, its map. -/
def DAt (w : World) (B : Nat) (rs rp : Option Nat) (m : Nat) (d : Dk) : Prop :=
  d.Ok ∧ ∃ vs vp, vs.ownBlock = rs ∧ vp.ownBlock = rp ∧ w.heap[B]? = some (.cells #[vs, vp, .map (some m), .bool d.stops, .int .i64 (d.after : Int), .bool d.dead] 59 (0, 0)) ∧
    w.ownsRow 0 9 1 vs d.safe.length (scells d.safe) ∧ w.ownsRow 0 62 2 vp d.pend.length (pcells d.pend) ∧ SMap w m d.pend.length (latest d.pend)

def DS (B : Nat) (rs rp : Option Nat) (m k : Nat) : Prop := k = B ∨ rs = some k ∨ rp = some k ∨ k = m
def RowOk (w : World) (row row' : Option Nat) : Prop := row' = row ∨ ∀ k, row' = some k → w.heap.size ≤ k
theorem RowOk.refl (w : World) (r : Option Nat) : RowOk w r r := .inl rfl
theorem RowOk.none (w : World) (r : Option Nat) : RowOk w r none := .inr fun _ h => by cases h
def DPost (w w' : World) (B : Nat) (rs rp : Option Nat) (m : Nat) (d : Dk) : Prop := ∃ rp', DAt w' B rs rp' m d ∧ Chg (DS B rs rp m) w w' ∧ RowOk w rp rp'

section
variable {w : World} {B : Nat} {rs rp : Option Nat} {m : Nat} {d : Dk}
/-- The cells that a method reads. -/
theorem DAt.cells (h : DAt w B rs rp m d) : ∃ sa cs ap cp, w.cell? ⟨B, 0, none⟩ = some (.slice sa d.safe.length cs) ∧ w.cell? ⟨B, 1, none⟩ = some (.slice ap d.pend.length cp) ∧ w.cell? ⟨B, 2, none⟩ = some (.map (some m)) ∧
    w.cell? ⟨B, 3, none⟩ = some (.bool d.stops) ∧ w.cell? ⟨B, 4, none⟩ = some (.int .i64 (d.after : Int)) ∧ w.cell? ⟨B, 5, none⟩ = some (.bool d.dead) ∧ (∀ i, w.frozen? ⟨B, i, none⟩ = false) ∧ B < w.heap.size := by
  obtain ⟨_, vs, vp, _, _, hb, hs, hp, _⟩ := h
  obtain ⟨sa, ls, cs, rfl, rfl⟩ := own_form hs
  obtain ⟨ap, lp, cp, rfl, rfl⟩ := own_form hp
  exact ⟨sa, cs, ap, cp, cell_of hb rfl, cell_of hb rfl, cell_of hb rfl, cell_of hb rfl, cell_of hb rfl, cell_of hb rfl, fun i => free_of hb, lt_of hb⟩
theorem kDead (h : DAt w B rs rp m d) : Calls Try.prog 21 #[.pointer (some ⟨B, 0, none⟩)] w fun e w' => e = .returned (.bool d.dead) ∧ w = w' := by
  obtain ⟨sa, cs, ap, cp, c0, c1, c2, c3, c4, c5, hf, hB⟩ := h.cells
  clear c0 c1 c2 c3 c4 hf hB h
  go_enter Try.func21, Try.ntmps21
  go_wp2
  go_ret
  exact ⟨rfl, rfl⟩
theorem kSectors (h : DAt w B rs rp m d) : Calls Try.prog 22 #[.pointer (some ⟨B, 0, none⟩)] w fun e w' => e = .returned (.int .i64 (d.safe.length : Int)) ∧ w = w' := by
  obtain ⟨sa, cs, ap, cp, c0, c1, c2, c3, c4, c5, hf, hB⟩ := h.cells
  clear c5 c1 c2 c3 c4 hf hB h
  go_enter Try.func22, Try.ntmps22
  go_wp2
  go_ret
  exact ⟨rfl, rfl⟩
theorem kPending (h : DAt w B rs rp m d) : Calls Try.prog 18 #[.pointer (some ⟨B, 0, none⟩)] w fun e w' => e = .returned (.int .i64 (d.pend.length : Int)) ∧ w = w' := by
  obtain ⟨sa, cs, ap, cp, c0, c1, c2, c3, c4, c5, hf, hB⟩ := h.cells
  clear c5 c0 c2 c3 c4 hf hB h
  go_enter Try.func18, Try.ntmps18
  go_wp2
  go_ret
  exact ⟨rfl, rfl⟩
/-- Is there such a sector? -/
def isIn (d : Dk) (n : Int) : Bool := decide (0 ≤ n ∧ n < d.safe.length)
theorem kis (n : Int) (h : DAt w B rs rp m d) : Calls Try.prog 32 #[.pointer (some ⟨B, 0, none⟩), .int .i64 n] w fun e w' => e = .returned (.bool (isIn d n)) ∧ w = w' := by
  obtain ⟨sa, cs, ap, cp, c0, c1, c2, c3, c4, c5, hf, hB⟩ := h.cells
  clear c5 c1 c2 c3 c4 hf hB h
  by_cases h0 : 0 ≤ n
  · go_enter Try.func32, Try.ntmps32
    go_wp2
    go_ret
    exact ⟨by simp [isIn, h0], rfl⟩
  · have hd : decide (0 ≤ n) = false := by simp; omega
    go_enter Try.func32, Try.ntmps32
    go_wp2
    go_ret
    exact ⟨by simp [isIn, hd], rfl⟩
end
end Go.Proofs.Ytnphpnbliigfbaa
