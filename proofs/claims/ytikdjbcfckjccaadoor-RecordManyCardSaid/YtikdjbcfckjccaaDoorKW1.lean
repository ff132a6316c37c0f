/- The Writer of package pack in memory, and what its methods do to it. No condition. -/
import Derived.Test.YtikdjbcfckjccaaDoorProg
import Derived.Test.YtikdjbcfckjccaaDoorBase
import Derived.Outline
import Derived.Handy
namespace Go.Proofs.YtikdjbcfckjccaaDoor
open Go.RowKit
theorem Tryd.infoU8 : (Tryd.prog.info? 5).map (fun i => (i.zero, i.size, i.bytes)) = some (some (.int .u8 0), 1, 1) := by kernel_rfl

/-- A WRITER IN MEMORY: block B holds the slice (its row: 'row') and the mark. -/
def WAt (w : World) (B : Nat) (row : Option Nat) (xs : List UInt8) (bad : Bool) : Prop :=
  ∃ v, v.ownBlock = row ∧ w.heap[B]? = some (.cells #[v, .bool bad] 58 (0, 0)) ∧ w.ownsRow 0 5 1 v xs.length (bcells xs)

/-- What a method of the Writer may write. -/
def WS (B : Nat) (row : Option Nat) (k : Nat) : Prop := k = B ∨ row = some k
/-- Where the row lies behind it. -/
def RowOk (w : World) (row row' : Option Nat) : Prop := row' = row ∨ ∀ k, row' = some k → w.heap.size ≤ k

/-- WHAT A METHOD OF THE WRITER LEAVES. -/
def WPost (w w' : World) (B : Nat) (row : Option Nat) (xs : List UInt8) (bad : Bool) : Prop :=
  ∃ row', WAt w' B row' xs bad ∧ Chg (WS B row) w w' ∧ RowOk w row row'

theorem WPost.refl {w : World} {B : Nat} {row : Option Nat} {xs : List UInt8} {bad : Bool} (h : WAt w B row xs bad) : WPost w w B row xs bad := ⟨row, h, Chg.refl _ _, .inl rfl⟩
theorem WPost.trans {w w1 w2 : World} {B : Nat} {row row1 : Option Nat} {ys : List UInt8} {b2 : Bool} (c : Chg (WS B row) w w1) (r : RowOk w row row1) (h : WPost w1 w2 B row1 ys b2) : WPost w w2 B row ys b2 := by
  obtain ⟨row2, a2, c2, r2⟩ := h
  refine ⟨row2, a2, c.trans c2 ?_, ?_⟩
  · intro k hk hs
    rcases hs with hs | hs
    · exact .inl hs
    · rcases r with r | r
      · exact .inr (r ▸ hs)
      · have := r k hs; omega
  · rcases r2 with rfl | r2
    · exact r
    · exact .inr fun k hk => Nat.le_trans c.size (r2 k hk)

theorem WPost.of_eq {w w' : World} {B : Nat} {row : Option Nat} {ys zs : List UInt8} {b : Bool} (h : WPost w w' B row ys b) (e : ys = zs) : WPost w w' B row zs b := e ▸ h

/-- BEHIND AN append ONTO THE WRITER's ROW, ahead of the store: what the walk wants of its block. -/
theorem WAt.ahead {wr w1 w' : World} {B : Nat} {v v' : Value} {xs : List UInt8} {n : Nat} {zs : List Value} (hb : wr.heap[B]? = some (.cells #[v, .bool false] 58 (0, 0))) (hown : wr.ownsRow 0 5 1 v xs.length (bcells xs))
    (hc : Chg (fun _ => False) wr w1) (hown' : w'.ownsRow 0 5 1 v' n zs) (hgrow : w1.grownBy w' v.ownBlock) :
    (∃ ao m cap, v' = .slice ao m cap) ∧ w'.heap[B]? = some (.cells #[v, .bool false] 58 (0, 0)) ∧ w'.cell? ⟨B, 0, none⟩ = some v ∧ w'.cell? ⟨B, 1, none⟩ = some (.bool false) ∧ w'.frozen? ⟨B, 0, none⟩ = false := by
  have hB := lt_of hb
  have hne : some B ≠ v.ownBlock := by
    intro e
    obtain ⟨cur, hcur⟩ := own_block hown e.symm
    rw [hb] at hcur
    simp at hcur
  have h' : w'.heap[B]? = some (.cells #[v, .bool false] 58 (0, 0)) := (hgrow.block B (Nat.lt_of_lt_of_le hB hc.size) hne).trans (hc.heap hb (fun h => h))
  obtain ⟨ao, m, cap, hv, _⟩ := own_form hown'
  exact ⟨⟨ao, m, cap, hv⟩, h', cell_of h' rfl, cell_of h' rfl, free_of h'⟩

/-- .. and behind the store. -/
theorem WAt.stored {wr w1 w' : World} {B : Nat} {v v' : Value} {xs ys : List UInt8} {n : Nat} (hb : wr.heap[B]? = some (.cells #[v, .bool false] 58 (0, 0))) (hown : wr.ownsRow 0 5 1 v xs.length (bcells xs))
    (hc : Chg (fun _ => False) wr w1) (hown' : w'.ownsRow 0 5 1 v' n (bcells xs ++ bcells ys)) (hgrow : w1.grownBy w' v.ownBlock) (hrow : v'.ownBlock = v.ownBlock ∨ ∀ k, v'.ownBlock = some k → w1.heap.size ≤ k) :
    WPost wr (w'.setCell ⟨B, 0, none⟩ v') B v.ownBlock (xs ++ ys) false := by
  obtain ⟨_, h', _⟩ := WAt.ahead hb hown hc hown' hgrow
  have hn : n = (xs ++ ys).length := by
    have := hown'.1
    simp only [List.length_append, bcells_length, Nat.mul_one] at this
    simp [this]
  subst hn
  have hne : v'.ownBlock ≠ some B := by
    intro e
    obtain ⟨cur, hcur⟩ := own_block hown' e
    rw [h'] at hcur
    simp at hcur
  refine ⟨v'.ownBlock, ⟨v', rfl, by simpa using heap_setCell (i := 0) h' v', ?_⟩, ((hc.mono (fun _ _ h => h.elim)).grown hgrow (fun k _ hk => .inr hk)).setCell (fun _ => .inl rfl) _, ?_⟩
  · rw [bcells_append]
    exact ownsRow_setCell_other hown' hne v'
  · rcases hrow with h | h
    · exact .inl h
    · exact .inr fun k hk => Nat.le_trans hc.size (h k hk)

/-- The mark is set. -/
theorem WAt.spoil {w : World} {B : Nat} {row : Option Nat} {xs : List UInt8} {b : Bool} (h : WAt w B row xs b) : WPost w (w.setCell ⟨B, 1, none⟩ (.bool true)) B row xs true := by
  obtain ⟨v, rfl, hb, hown⟩ := h
  have hne : v.ownBlock ≠ some B := by
    intro e
    obtain ⟨cur, hcur⟩ := own_block hown e
    rw [hb] at hcur
    simp at hcur
  exact ⟨v.ownBlock, ⟨v, rfl, by simpa using heap_setCell (i := 1) hb (.bool true), ownsRow_setCell_other hown hne _⟩, (Chg.refl _ _).setCell (fun _ => .inl rfl) _, .inl rfl⟩

/-- A number in so many bytes, the most significant one first. -/
def be : Nat → Nat → List UInt8
  | 0, _ => []
  | n + 1, x => UInt8.ofNat (x / 256 ^ n) :: be n x

/-- What writing a number does to the bytes and the mark. -/
def wput (n : Nat) (x : Int) (xs : List UInt8) (b : Bool) : List UInt8 × Bool := if b = true ∨ x < 0 ∨ (256 ^ n : Int) ≤ x then (xs, true) else (xs ++ be n x.toNat, false)
theorem wput_no {n : Nat} {x : Int} {xs : List UInt8} {b : Bool} (h : b = true ∨ x < 0 ∨ (256 ^ n : Int) ≤ x) : wput n x xs b = (xs, true) := if_pos h
theorem wput_yes {n : Nat} {x : Int} {xs : List UInt8} {b : Bool} (h : ¬ (b = true ∨ x < 0 ∨ (256 ^ n : Int) ≤ x)) : wput n x xs b = (xs ++ be n x.toNat, false) := if_neg h

theorem byte_cell (y : Int) (n : Nat) (h : y % 256 = ((n % 256 : Nat) : Int)) : [Value.int .u8 (IntKind.u8.wrap y)] = bcells [UInt8.ofNat n] := by
  simp only [bcells, List.map_cons, List.map_nil, IntKind.wrap_u8, UInt8.toNat_ofNat']
  rw [h]

end Go.Proofs.YtikdjbcfckjccaaDoor
