/- One writer, one reader of the call's own: the methods once more, with what was there ahead of the call told in one word. And 'alive'. No condition. -/
import Derived.Test.YtikdjbcfckjccaaDoorKT3
import Derived.Test.YtikdjbcfckjccaaDoorKR2
namespace Go.Proofs.YtikdjbcfckjccaaDoor
open Go.RowKit

/-- A WRITER OF THE CALL's OWN: below H all is as it was in w0. -/
def WIn (H : Nat) (w0 w : World) (B : Nat) (xs : List UInt8) (b : Bool) : Prop :=
  ∃ row, WAt w B row xs b ∧ H ≤ B ∧ (∀ k, row = some k → H ≤ k) ∧ Below H w0 w ∧ H ≤ w.heap.size
def RIn (H : Nat) (w0 w : World) (R : Nat) (l : List UInt8) (b : Bool) : Prop := RAt w R l b ∧ H ≤ R ∧ Below H w0 w ∧ H ≤ w.heap.size

theorem WIn.new (w : World) : WIn w.heap.size w (w.alloc (.cells #[.slice none 0 0, .bool false] 58)) w.heap.size [] false :=
  ⟨none, ⟨.slice none 0 0, rfl, heap_alloc_new w _, World.ownsRow_nil _ _ _ _⟩, Nat.le_refl _, (fun _ h => by cases h), (Below.refl _ _).alloc (Nat.le_refl _) _, by simp⟩
theorem WIn.step {H : Nat} {w0 w w' : World} {B : Nat} {row : Option Nat} {ys : List UInt8} {b : Bool} (hB : H ≤ B) (hr : ∀ k, row = some k → H ≤ k) (hb : Below H w0 w) (hz : H ≤ w.heap.size) (h : WPost w w' B row ys b) : WIn H w0 w' B ys b := by
  obtain ⟨row', ha, hc, hk⟩ := h
  refine ⟨row', ha, hB, ?_, hb.trans (hc.below ?_ hz), Nat.le_trans hz hc.size⟩
  · intro k e
    rcases hk with rfl | hk
    · exact hr k e
    · exact Nat.le_trans hz (hk k e)
  · intro k _ hs
    rcases hs with rfl | hs
    · exact hB
    · exact hr k hs
theorem RIn.step {H : Nat} {w0 w w' : World} {R : Nat} {l : List UInt8} {b : Bool} (hR : H ≤ R) (hb : Below H w0 w) (hz : H ≤ w.heap.size) (h : RPost w w' R l b) : RIn H w0 w' R l b :=
  ⟨h.1, hR, hb.trans (h.2.below (fun k _ hs => by cases hs; exact hR) hz), Nat.le_trans hz h.2.size⟩

section
variable {H B R : Nat} {w0 w : World} {xs l : List UInt8} {b : Bool}
theorem iNum {ys : List UInt8} {c : Bool} (x : Int) (q : wput 2 x xs b = (ys, c)) (hs : xs.length + 2 ≤ 140737488355328) (h : WIn H w0 w B xs b) :
    Calls Tryd.prog 24 #[.pointer (some ⟨B, 0, none⟩), .int .i64 x] w fun e w' => e = .returned (.pointer (some ⟨B, 0, none⟩)) ∧ WIn H w0 w' B ys c := by
  obtain ⟨row, ha, hB, hr, hb, hz⟩ := h
  exact (wNum B row xs b x w hs ha).mono fun e w' ⟨he, hp⟩ => ⟨he, WIn.step hB hr hb hz (by rw [q] at hp; exact hp)⟩
theorem iLong {ys : List UInt8} {c : Bool} (x : Int) (q : wput 4 x xs b = (ys, c)) (hs : xs.length + 4 ≤ 140737488355328) (h : WIn H w0 w B xs b) :
    Calls Tryd.prog 25 #[.pointer (some ⟨B, 0, none⟩), .int .i64 x] w fun e w' => e = .returned (.pointer (some ⟨B, 0, none⟩)) ∧ WIn H w0 w' B ys c := by
  obtain ⟨row, ha, hB, hr, hb, hz⟩ := h
  exact (wLong B row xs b x w hs ha).mono fun e w' ⟨he, hp⟩ => ⟨he, WIn.step hB hr hb hz (by rw [q] at hp; exact hp)⟩
theorem iText {ys : List UInt8} {c : Bool} (s : ByteArray) (q : wtext s.data.toList xs b = (ys, c)) (hs : xs.length + 2 + s.size ≤ 140737488355328) (h : WIn H w0 w B xs b) :
    Calls Tryd.prog 26 #[.pointer (some ⟨B, 0, none⟩), .string s] w fun e w' => e = .returned (.pointer (some ⟨B, 0, none⟩)) ∧ WIn H w0 w' B ys c := by
  obtain ⟨row, ha, hB, hr, hb, hz⟩ := h
  exact (wText B row xs b s w hs ha).mono fun e w' ⟨he, hp⟩ => ⟨he, WIn.step hB hr hb hz (by rw [q] at hp; exact hp)⟩
/-- What Done answers. -/
def dones (xs : List UInt8) (b : Bool) : List UInt8 := if b then [] else xs
theorem iDone (h : WIn H w0 w B xs b) :
    Calls Tryd.prog 29 #[.pointer (some ⟨B, 0, none⟩)] w fun e w' => e = .returned (.tuple #[.string (mk (dones xs b)), .bool !b]) ∧ w = w' := by
  obtain ⟨row, ha, _⟩ := h
  cases b
  · exact wDone_ok B row xs w ha
  · exact wDone_bad B row xs w ha
theorem iFrom (hb : Below H w0 w) (hz : H ≤ w.heap.size) :
    Calls Tryd.prog 18 #[.string (mk l)] w fun e w' => ∃ R, e = .returned (.pointer (some ⟨R, 0, none⟩)) ∧ RIn H w0 w' R l false := by
  refine (rFrom l w).mono fun e w' ⟨he, hw⟩ => ⟨_, he, ?_⟩
  subst hw
  exact ⟨heap_alloc_new w _, hz, hb.alloc hz _, by simp; omega⟩
theorem jNum {n : Nat} {l' : List UInt8} {b' : Bool} (q : rnum 2 l b = (n, l', b')) (h : RIn H w0 w R l b) :
    Calls Tryd.prog 19 #[.pointer (some ⟨R, 0, none⟩)] w fun e w' => e = .returned (.int .i64 n) ∧ RIn H w0 w' R l' b' :=
  (rNum R l b w h.1).mono fun e w' ⟨he, hp⟩ => by rw [q] at he hp; exact ⟨he, RIn.step h.2.1 h.2.2.1 h.2.2.2 hp⟩
theorem jLong {n : Nat} {l' : List UInt8} {b' : Bool} (q : rnum 4 l b = (n, l', b')) (h : RIn H w0 w R l b) :
    Calls Tryd.prog 20 #[.pointer (some ⟨R, 0, none⟩)] w fun e w' => e = .returned (.int .i64 n) ∧ RIn H w0 w' R l' b' :=
  (rLong R l b w h.1).mono fun e w' ⟨he, hp⟩ => by rw [q] at he hp; exact ⟨he, RIn.step h.2.1 h.2.2.1 h.2.2.2 hp⟩
theorem jText {s l' : List UInt8} {b' : Bool} (q : rtext l b = (s, l', b')) (h : RIn H w0 w R l b) :
    Calls Tryd.prog 21 #[.pointer (some ⟨R, 0, none⟩)] w fun e w' => e = .returned (.string (mk s)) ∧ RIn H w0 w' R l' b' :=
  (rText R l b w h.1).mono fun e w' ⟨he, hp⟩ => by rw [q] at he hp; exact ⟨he, RIn.step h.2.1 h.2.2.1 h.2.2.2 hp⟩
theorem jBad (h : RIn H w0 w R l b) : Calls Tryd.prog 23 #[.pointer (some ⟨R, 0, none⟩)] w fun e w' => e = .returned (.bool b) ∧ w = w' := rBad R l b w h.1
theorem RIn.drewN (h : RIn H w0 w R l b) (n : Nat) : RIn H w0 (w.drewN n) R l b := ⟨h.1, h.2.1, ⟨h.2.2.1.os, h.2.2.1.tape, h.2.2.1.output, h.2.2.1.size, h.2.2.1.block⟩, h.2.2.2⟩
end

theorem WIn.was {H B : Nat} {w0 w : World} {xs : List UInt8} {b : Bool} (h : WIn H w0 w B xs b) : Below H w0 w ∧ H ≤ w.heap.size := by obtain ⟨_, _, _, _, h1, h2⟩ := h; exact ⟨h1, h2⟩

end Go.Proofs.YtikdjbcfckjccaaDoor
