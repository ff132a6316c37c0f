/- A law's own record in its variable. No condition. -/
import Derived.Test.YtikdjbcfckjccaaDoorRecE
import Derived.Test.YtikdjbcfckjccaaDoorRecL
import Derived.Test.YtikdjbcfckjccaaDoorRecO
namespace Go.Proofs.YtikdjbcfckjccaaDoor
open Go.RowKit
structure RB (w0 w : World) (cs : Array Value) (vp vt vx vd : Value) (r : Rec) : Prop where
  orig : RecAt w0 (.agg cs) vp vt vx vd r
  box : w.heap[w0.heap.size]? = some (.cells cs 29 (0, 0))
  bel : Below w0.heap.size w0 w
section
variable {w0 w w' : World} {cs : Array Value} {vp vt vx vd : Value} {r : Rec}
theorem RB.at_ (h : RB w0 w cs vp vt vx vd r) : RecAt w (.agg cs) vp vt vx vd r := h.orig.more h.bel
theorem RB.start (h : RecAt w0 (.agg cs) vp vt vx vd r) : RB w0 (w0.alloc (.cells cs 29 (0, 0))) cs vp vt vx vd r :=
  ⟨h, heap_alloc_new w0 _, (Below.refl _ _).alloc (Nat.le_refl _) _⟩
theorem RB.chg {S : Nat → Prop} (h : RB w0 w cs vp vt vx vd r) (hc : Chg S w w') (hS : ∀ k, S k → k < w.heap.size → w0.heap.size < k) : RB w0 w' cs vp vt vx vd r :=
  ⟨h.orig, hc.heap h.box (fun e => by have := hS _ e (lt_of h.box); omega), h.bel.trans (hc.below (fun k hk e => by have := hS k e hk; omega) h.bel.size)⟩
theorem RB.more (h : RB w0 w cs vp vt vx vd r) (hb : Below w.heap.size w w') : RB w0 w' cs vp vt vx vd r := h.chg (S := fun _ => False) (Chg.of_below hb) (fun _ e => e.elim)
theorem RB.drewN (h : RB w0 w cs vp vt vx vd r) (n : Nat) : RB w0 (w.drewN n) cs vp vt vx vd r := h.more (below_drewN (Below.refl _ _) n)
theorem RB.lt (h : RB w0 w cs vp vt vx vd r) : w0.heap.size < w.heap.size := lt_of h.box
end
theorem small_of {r : Rec} (h : RecOk r) : Small r := by
  have h1 : r.pages.length ≤ 64 ∧ ∀ x ∈ r.pages, short x = true := by simpa [pagesOk] using h.pages
  refine ⟨by omega, by have := h.pats; omega, by have := h.txs; omega, by have := h.dirty; omega, fun t ht => ?_⟩
  have := h.txsOk t ht
  have h2 : short t.tx = true ∧ long t.last = true ∧ t.pages.length ≤ 64 ∧ ∀ x ∈ t.pages, short x = true := by simpa [txOk, pagesOk, and_assoc] using this
  omega
/-- What patches, transactions take. -/
def psum (l : List Pt) : Nat := (l.map fun p => 6 + p.bytes.length).sum
def tsum (l : List Tt) : Nat := (l.map fun t => 10 + 2 * t.pages.length).sum
theorem psum_take (l : List Pt) (k : Nat) (h : k < l.length) : psum (l.take (k + 1)) = psum (l.take k) + (6 + l[k].bytes.length) := by
  rw [List.take_succ_eq_append_getElem h, psum, List.map_append, List.sum_append]; simp [psum]
theorem tsum_take (l : List Tt) (k : Nat) (h : k < l.length) : tsum (l.take (k + 1)) = tsum (l.take k) + (10 + 2 * l[k].pages.length) := by
  rw [List.take_succ_eq_append_getElem h, tsum, List.map_append, List.sum_append]; simp [tsum]
theorem psum_le (l : List Pt) (h : ∀ p ∈ l, p.bytes.length ≤ 256) : psum l ≤ 262 * l.length := by
  induction l with
  | nil => simp [psum]
  | cons p l ih =>
    have h1 := h p (by simp)
    have h2 := ih (fun q hq => h q (by simp [hq]))
    simp [psum] at h2 ⊢; omega
theorem tsum_le (l : List Tt) (h : ∀ p ∈ l, p.pages.length ≤ 1000000) : tsum l ≤ 2000010 * l.length := by
  induction l with
  | nil => simp [tsum]
  | cons p l ih =>
    have h1 := h p (by simp)
    have h2 := ih (fun q hq => h q (by simp [hq]))
    simp [tsum] at h2 ⊢; omega
theorem pat_len {p : Pt} (h : patOk p = true) : p.bytes.length ≤ 256 := by
  simp only [patOk, Bool.and_eq_true, decide_eq_true_eq] at h
  omega
theorem enc_le {r : Rec} (h : RecOk r) : (enc r).length ≤ 10000000000000 := by
  obtain ⟨s1, s2, s3, s4, s5⟩ := small_of h
  obtain ⟨q1, q2, _, _⟩ := cell_small h.old
  have q3 := h.key
  have h1 := psum_le r.pats (fun p hp => pat_len (h.patsOk p hp))
  have h2 := tsum_le r.txs s5
  rw [enc_length]
  simp only [psum, tsum] at h1 h2
  omega
end Go.Proofs.YtikdjbcfckjccaaDoor
