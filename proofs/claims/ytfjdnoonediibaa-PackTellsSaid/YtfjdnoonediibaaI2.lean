/- Two writers of the call's own. No condition. -/
import Derived.Test.YtfjdnoonediibaaI1
namespace Go.Proofs.Ytfjdnoonediibaa
open Go.RowKit

def W2 (H : Nat) (w0 w : World) (A : Nat) (xs : List UInt8) (a : Bool) (B : Nat) (ys : List UInt8) (b : Bool) : Prop :=
  ∃ r s, WAt w A r xs a ∧ WAt w B s ys b ∧ A ≠ B ∧ (∀ k, r = some k → s ≠ some k) ∧ H ≤ A ∧ H ≤ B ∧ (∀ k, r = some k → H ≤ k) ∧ (∀ k, s = some k → H ≤ k) ∧ Below H w0 w ∧ H ≤ w.heap.size

theorem W2.swap {H : Nat} {w0 w : World} {A : Nat} {xs : List UInt8} {a : Bool} {B : Nat} {ys : List UInt8} {b : Bool} (h : W2 H w0 w A xs a B ys b) : W2 H w0 w B ys b A xs a := by
  obtain ⟨r, s, h1, h2, h3, h4, h5, h6, h7, h8, h9, h10⟩ := h
  exact ⟨s, r, h2, h1, h3.symm, fun k hs hr => h4 k hr hs, h6, h5, h8, h7, h9, h10⟩
theorem W2.was {H : Nat} {w0 w : World} {A : Nat} {xs : List UInt8} {a : Bool} {B : Nat} {ys : List UInt8} {b : Bool} (h : W2 H w0 w A xs a B ys b) : Below H w0 w ∧ H ≤ w.heap.size := by
  obtain ⟨r, s, h1, h2, h3, h4, h5, h6, h7, h8, h9, h10⟩ := h
  exact ⟨h9, h10⟩
/-- A writer's row is no writer's block. -/
theorem WAt.apart {w : World} {A B : Nat} {r s : Option Nat} {xs ys : List UInt8} {a b : Bool} (h : WAt w A r xs a) (k : WAt w B s ys b) : r ≠ some B := by
  rintro rfl
  obtain ⟨v, hv, _, hown⟩ := h
  obtain ⟨_, _, hB, _⟩ := k
  obtain ⟨cur, hc⟩ := own_block hown hv
  rw [hB] at hc
  simp at hc
theorem WAt.rowlt {w : World} {A : Nat} {r : Option Nat} {xs : List UInt8} {a : Bool} (h : WAt w A r xs a) {k : Nat} (hk : r = some k) : k < w.heap.size := by
  subst hk
  obtain ⟨v, hv, _, hown⟩ := h
  obtain ⟨cur, hc⟩ := own_block hown hv
  exact lt_of hc
theorem WAt.kept {w w' : World} {A : Nat} {r : Option Nat} {xs : List UInt8} {a : Bool} {S : Nat → Prop} (h : WAt w A r xs a) (c : Chg S w w') (h1 : ¬ S A) (h2 : ∀ k, r = some k → ¬ S k) : WAt w' A r xs a := by
  obtain ⟨v, rfl, hb, hown⟩ := h
  exact ⟨v, rfl, c.heap hb h1, c.row hown h2⟩
theorem WAt.row_one {w : World} {A : Nat} {r s : Option Nat} {xs ys : List UInt8} {a b : Bool} (h : WAt w A r xs a) (k : WAt w A s ys b) : r = s := by
  obtain ⟨v, rfl, h1, _⟩ := h
  obtain ⟨u, rfl, h2, _⟩ := k
  rw [h1] at h2
  simp at h2
  rw [h2.1]
theorem W2.step {H : Nat} {w0 w w' : World} {A : Nat} {xs zs : List UInt8} {a c : Bool} {B : Nat} {ys : List UInt8} {b : Bool} (h : W2 H w0 w A xs a B ys b)
    (hp : ∀ r, WAt w A r xs a → WPost w w' A r zs c) : W2 H w0 w' A zs c B ys b := by
  obtain ⟨r, s, h1, h2, h3, h4, h5, h6, h7, h8, h9, h10⟩ := h
  obtain ⟨r', ha, hc, hr⟩ := hp r h1
  have hB := h2.kept hc (fun hs => by rcases hs with hs | hs; exact h3 hs.symm; exact h1.apart h2 hs) (fun k hk hs => by
    rcases hs with rfl | hs
    · exact h2.apart h1 hk
    · exact h4 k hs hk)
  refine ⟨r', s, ha, hB, h3, ?_, h5, h6, ?_, h8, h9.trans (hc.below ?_ h10), Nat.le_trans h10 hc.size⟩
  · rcases hr with rfl | hr
    · exact h4
    · intro k e hs
      have := hr k e
      have := h2.rowlt hs
      omega
  · intro k e
    rcases hr with rfl | hr
    · exact h7 k e
    · exact Nat.le_trans h10 (hr k e)
  · intro k _ hs
    rcases hs with rfl | hs
    · exact h5
    · exact h7 k hs

theorem W2.stepr {H : Nat} {w0 w w' : World} {A : Nat} {xs zs : List UInt8} {a c : Bool} {B : Nat} {ys : List UInt8} {b : Bool} {r : Option Nat} (h : W2 H w0 w A xs a B ys b) (h1 : WAt w A r xs a) (hp : WPost w w' A r zs c) : W2 H w0 w' A zs c B ys b :=
  h.step fun r' h' => by rw [h'.row_one h1]; exact hp
section
variable {H A B R : Nat} {w0 w : World} {xs ys zs : List UInt8} {a b c : Bool}
theorem W2.new (w : World) (A B H : Nat) (hA : A = w.heap.size) (hB : B = A + 1) (hH : H = w.heap.size) : W2 H w ((w.alloc (.cells #[.slice none 0 0, .bool false] 26)).alloc (.cells #[.slice none 0 0, .bool false] 26)) A [] false B [] false := by
  subst hB; subst hA; subst hH
  refine ⟨none, none, ⟨.slice none 0 0, rfl, ?_, World.ownsRow_nil _ _ _ _⟩, ⟨.slice none 0 0, rfl, ?_, World.ownsRow_nil _ _ _ _⟩, by omega, (fun _ h => by cases h), Nat.le_refl _, by omega, (fun _ h => by cases h), (fun _ h => by cases h), ((Below.refl _ _).alloc (Nat.le_refl _) _).alloc (by simp) _, by simp; omega⟩
  · rw [Below.heap_alloc _ _ _ (by simp)]
    exact heap_alloc_new w _
  · have := heap_alloc_new (w.alloc (.cells #[.slice none 0 0, .bool false] 26)) (.cells #[.slice none 0 0, .bool false] 26)
    simpa using this
theorem kNum (x : Int) (q : wput 2 x xs a = (zs, c)) (hs : xs.length + 2 ≤ 140737488355328) (h : W2 H w0 w A xs a B ys b) :
    Calls Try.prog 11 #[.pointer (some ⟨A, 0, none⟩), .int .i64 x] w fun e w' => e = .returned (.pointer (some ⟨A, 0, none⟩)) ∧ W2 H w0 w' A zs c B ys b := by
  have h' := h
  obtain ⟨r, s, h1, _⟩ := h
  exact (wNum A r xs a x w hs h1).mono fun e w' ⟨he, hp⟩ => ⟨he, h'.stepr h1 (by rw [q] at hp; exact hp)⟩
theorem kLong (x : Int) (q : wput 4 x xs a = (zs, c)) (hs : xs.length + 4 ≤ 140737488355328) (h : W2 H w0 w A xs a B ys b) :
    Calls Try.prog 19 #[.pointer (some ⟨A, 0, none⟩), .int .i64 x] w fun e w' => e = .returned (.pointer (some ⟨A, 0, none⟩)) ∧ W2 H w0 w' A zs c B ys b := by
  have h' := h
  obtain ⟨r, s, h1, _⟩ := h
  exact (wLong A r xs a x w hs h1).mono fun e w' ⟨he, hp⟩ => ⟨he, h'.stepr h1 (by rw [q] at hp; exact hp)⟩
theorem kText (t : ByteArray) (q : wtext t.data.toList xs a = (zs, c)) (hs : xs.length + 2 + t.size ≤ 140737488355328) (h : W2 H w0 w A xs a B ys b) :
    Calls Try.prog 12 #[.pointer (some ⟨A, 0, none⟩), .string t] w fun e w' => e = .returned (.pointer (some ⟨A, 0, none⟩)) ∧ W2 H w0 w' A zs c B ys b := by
  have h' := h
  obtain ⟨r, s, h1, _⟩ := h
  exact (wText A r xs a t w hs h1).mono fun e w' ⟨he, hp⟩ => ⟨he, h'.stepr h1 (by rw [q] at hp; exact hp)⟩
theorem kDone (h : W2 H w0 w A xs a B ys b) :
    Calls Try.prog 13 #[.pointer (some ⟨A, 0, none⟩)] w fun e w' => e = .returned (.tuple #[.string (mk (dones xs a)), .bool !a]) ∧ w = w' := by
  obtain ⟨r, s, h1, _⟩ := h
  cases a
  · exact wDone_ok A r xs w h1
  · exact wDone_bad A r xs w h1
end
end Go.Proofs.Ytfjdnoonediibaa
