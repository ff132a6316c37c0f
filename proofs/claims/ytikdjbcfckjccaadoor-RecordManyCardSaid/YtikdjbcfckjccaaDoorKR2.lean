/- What the Reader's exported methods answer, and leave. No condition. -/
import Derived.Test.YtikdjbcfckjccaaDoorKR1
namespace Go.Proofs.YtikdjbcfckjccaaDoor
open Go.RowKit

theorem take_nil (n : Int) (w : World) : Calls Tryd.prog 43 #[.pointer none, .int .i64 n] w fun e w' => e = .returned (.string (mk [])) ∧ w = w' := by
  go_enter Tryd.func43, Tryd.ntmps43
  go_wp2
  go_ret
  exact ⟨rfl, rfl⟩
theorem get_nil (n : Int) (w : World) : Calls Tryd.prog 42 #[.pointer none, .int .i64 n] w fun e w' => e = .returned (.int .i64 0) ∧ w = w' := by
  have h0 : (mk []).size = 0 := rfl
  go_enter Tryd.func42, Tryd.ntmps42
  go_wp2_with (go_at_call 43; refine (take_nil _ _).mono ?_; rintro e w1 ⟨rfl, rfl⟩)
  go_rounds 1
  go_ret
  exact ⟨rfl, rfl⟩
theorem get_bad (R : Nat) (l : List UInt8) (b : Bool) (n : Int) (w : World) (h : b = true ∨ (l.length : Int) < n) (hr : RAt w R l b) :
    Calls Tryd.prog 42 #[.pointer (some ⟨R, 0, none⟩), .int .i64 n] w fun e w' => e = .returned (.int .i64 0) ∧ RPost w w' R l true := by
  have C := Lib.hid (take_bad R l b n w h hr)
  have h0 : (mk []).size = 0 := rfl
  go_enter Tryd.func42, Tryd.ntmps42
  go_wp2_with (go_at_call 43; refine C.out.mono ?_; rintro e w1 ⟨rfl, hp⟩)
  go_rounds 1
  go_ret
  exact ⟨rfl, hp⟩

/-- What is read: a number of n bytes; a text; what is left, and the mark. -/
def rnum (n : Nat) (l : List UInt8) (b : Bool) : Nat × List UInt8 × Bool := if b = true ∨ l.length < n then (0, l, true) else (val (l.take n), l.drop n, false)
def rcut (n : Nat) (l : List UInt8) (b : Bool) : List UInt8 × List UInt8 × Bool := if b = true ∨ l.length < n then ([], l, true) else (l.take n, l.drop n, false)
def rtext (l : List UInt8) (b : Bool) : List UInt8 × List UInt8 × Bool := rcut (rnum 2 l b).1 (rnum 2 l b).2.1 (rnum 2 l b).2.2

theorem get_any (R : Nat) (l : List UInt8) (b : Bool) (n : Nat) (w : World) (hn : n ≤ 4) (hr : RAt w R l b) :
    Calls Tryd.prog 42 #[.pointer (some ⟨R, 0, none⟩), .int .i64 n] w fun e w' => e = .returned (.int .i64 (rnum n l b).1) ∧ RPost w w' R (rnum n l b).2.1 (rnum n l b).2.2 := by
  by_cases h : b = true ∨ l.length < n
  · rw [show rnum n l b = (0, l, true) from if_pos h]
    exact get_bad R l b n w (by rcases h with h | h; exact .inl h; right; omega) hr
  · rw [show rnum n l b = (val (l.take n), l.drop n, false) from if_neg h]
    cases b
    · exact get_ok R l n w hn (by simp at h; exact h) hr
    · simp at h
theorem take_any (R : Nat) (l : List UInt8) (b : Bool) (n : Nat) (w : World) (hr : RAt w R l b) :
    Calls Tryd.prog 43 #[.pointer (some ⟨R, 0, none⟩), .int .i64 n] w fun e w' => e = .returned (.string (mk (rcut n l b).1)) ∧ RPost w w' R (rcut n l b).2.1 (rcut n l b).2.2 := by
  by_cases h : b = true ∨ l.length < n
  · rw [show rcut n l b = ([], l, true) from if_pos h]
    exact take_bad R l b n w (by rcases h with h | h; exact .inl h; right; omega) hr
  · rw [show rcut n l b = (l.take n, l.drop n, false) from if_neg h]
    cases b
    · exact take_ok R l n w (by simp at h; exact h) hr
    · simp at h

theorem rNum (R : Nat) (l : List UInt8) (b : Bool) (w : World) (hr : RAt w R l b) :
    Calls Tryd.prog 19 #[.pointer (some ⟨R, 0, none⟩)] w fun e w' => e = .returned (.int .i64 (rnum 2 l b).1) ∧ RPost w w' R (rnum 2 l b).2.1 (rnum 2 l b).2.2 := by
  have C := Lib.hid (get_any R l b 2 w (by omega) hr)
  go_enter Tryd.func19, Tryd.ntmps19
  go_wp2_with (go_at_call 42; refine C.out.mono ?_; rintro e w' ⟨rfl, hp⟩)
  go_ret
  exact ⟨rfl, hp⟩
theorem rLong (R : Nat) (l : List UInt8) (b : Bool) (w : World) (hr : RAt w R l b) :
    Calls Tryd.prog 20 #[.pointer (some ⟨R, 0, none⟩)] w fun e w' => e = .returned (.int .i64 (rnum 4 l b).1) ∧ RPost w w' R (rnum 4 l b).2.1 (rnum 4 l b).2.2 := by
  have C := Lib.hid (get_any R l b 4 w (by omega) hr)
  go_enter Tryd.func20, Tryd.ntmps20
  go_wp2_with (go_at_call 42; refine C.out.mono ?_; rintro e w' ⟨rfl, hp⟩)
  go_ret
  exact ⟨rfl, hp⟩
theorem rText (R : Nat) (l : List UInt8) (b : Bool) (w : World) (hr : RAt w R l b) :
    Calls Tryd.prog 21 #[.pointer (some ⟨R, 0, none⟩)] w fun e w' => e = .returned (.string (mk (rtext l b).1)) ∧ RPost w w' R (rtext l b).2.1 (rtext l b).2.2 := by
  have C := Lib.hid (rNum R l b w hr)
  have D := Lib.hid (fun w1 => take_any R (rnum 2 l b).2.1 (rnum 2 l b).2.2 (rnum 2 l b).1 w1)
  rw [show rtext l b = rcut (rnum 2 l b).1 (rnum 2 l b).2.1 (rnum 2 l b).2.2 from rfl]
  generalize rcut (rnum 2 l b).1 (rnum 2 l b).2.1 (rnum 2 l b).2.2 = z at *
  generalize rnum 2 l b = y at *
  go_enter Tryd.func21, Tryd.ntmps21
  go_wp2_with fail
  refine C.out.mono ?_
  rintro e w1 ⟨rfl, hp, hc⟩
  go_wp2_with fail
  refine (D.out w1 hp).mono ?_
  rintro e w2 ⟨rfl, hp2, hc2⟩
  go_wp2
  go_ret
  exact ⟨rfl, hp2, hc.trans hc2 (fun _ _ h => h)⟩
theorem rBad (R : Nat) (l : List UInt8) (b : Bool) (w : World) (hr : RAt w R l b) :
    Calls Tryd.prog 23 #[.pointer (some ⟨R, 0, none⟩)] w fun e w' => e = .returned (.bool b) ∧ w = w' := by
  have c1 : w.cell? ⟨R, 1, none⟩ = some (.bool b) := cell_of hr rfl
  go_enter Tryd.func23, Tryd.ntmps23
  go_wp2
  go_ret
  exact ⟨rfl, rfl⟩
theorem rFrom (l : List UInt8) (w : World) :
    Calls Tryd.prog 18 #[.string (mk l)] w fun e w' => e = .returned (.pointer (some ⟨w.heap.size, 0, none⟩)) ∧ w.alloc (.cells #[.string (mk l), .bool false] 76) = w' := by
  go_enter Tryd.func18, Tryd.ntmps18
  go_wp2
  go_ret
  exact ⟨rfl, rfl⟩
end Go.Proofs.YtikdjbcfckjccaaDoor
