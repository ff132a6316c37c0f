/- A book that keeps lists of one kind (Texts), as one fact. No condition. -/
import Derived.Test.YtaecfgakgpndaaaGreatBkAT
namespace Go.Proofs.YtaecfgakgpndaaaGreat
open Go.RowKit

def bk18 : Array Value := #[.slice none 0 0, .slice none 0 0, .slice none 0 0, .slice none 0 0, .slice none 0 0, .slice none 0 0, .slice none 0 0, .slice none 0 0, .slice none 0 0, .slice none 0 0, .slice none 0 0, .slice none 0 0, .slice none 0 0, .slice none 0 0, .slice none 0 0, .slice none 0 0, .slice none 0 0, .slice none 0 0]
theorem bk18_eq : bk18 = Array.replicate 18 (.slice none 0 0) := rfl
theorem bk18_at (i : Nat) (h : i < 18) : bk18[i]? = some (.slice none 0 0) := by rw [bk18_eq]; simp [h]
/-- The book at B keeps L; what it uses lies in blocks of T. -/
def Bks (T : Nat → Prop) (w : World) (B base : Nat) (L : List Lst) : Prop :=
  ∃ (cur : Array Value) (vh vw : Value) (S : Nat → Prop), w.heap[B]? = some (.cells cur 46 (0, 0)) ∧ cur.size = 18 ∧ cur[2]? = some vh ∧ cur[3]? = some vw ∧ (∀ i, i < 18 → i ≠ 2 → i ≠ 3 → cur[i]? = some (.slice none 0 0)) ∧ KS 24 9 1 base w B vh vw L S ∧ ∀ k, S k → T k
theorem Bks.start (w : World) (base : Nat) : Bks (fun _ => False) (w.alloc (.cells bk18 46)) w.heap.size base [] :=
  ⟨bk18, _, _, fun _ => False, heap_alloc_new w _, rfl, bk18_at 2 (by omega), bk18_at 3 (by omega), fun i h _ _ => bk18_at i h, KS.start _ _ _ _ _ _, fun _ h => h⟩
theorem Bks.kept {S T : Nat → Prop} {w w' : World} {B base : Nat} {L : List Lst} (h : Bks T w B base L) (hc : Chg S w w') (hB : ¬ S B) (hT : ∀ k, T k → ¬ S k) : Bks T w' B base L := by
  obtain ⟨cur, vh, vw, S2, h1, h2, h3, h4, h5, h6, h7⟩ := h
  exact ⟨cur, vh, vw, S2, hc.heap h1 hB, h2, h3, h4, h5, h6.kept hc (fun k hk => hT k (h7 k hk)), h7⟩
theorem Bks.more {T : Nat → Prop} {w w' : World} {B base : Nat} {L : List Lst} (h : Bks T w B base L) (hb : Below w.heap.size w w') : Bks T w' B base L := h.kept (Chg.of_below (S := fun _ => False) hb) id (fun _ _ => id)
theorem Bks.keep {T : Nat → Prop} {w : World} {B base q : Nat} {L : List Lst} {v : Value} {xs : List Value} (h : Bks T w B base L) (hv : w.ownsRow base 9 1 v q xs) (hvT : ∀ k, v.ownBlock = some k → ¬ T k ∧ k ≠ B) (hx : xs.length = q) (h1 : ∀ u ∈ xs, u.oneCell' = true) (hq : q ≤ 1000000) (hn : L.length < 250) :
    Calls Tryz.prog 13 #[.pointer (some ⟨B, 0, none⟩), v] w fun e w' => e = .returned (.tuple #[]) ∧ Bks (fun k => T k ∨ v.ownBlock = some k ∨ (w.heap.size ≤ k ∧ k < w'.heap.size)) w' B base (L ++ [⟨v, q, xs⟩]) ∧ Chg (fun k => k = B ∨ T k) w w' := by
  obtain ⟨cur, vh, vw, S, k1, k2, k3, k4, k5, k6, k7⟩ := h
  have hB := lt_of k1
  refine (bkT_keep k6 k1 k3 k4 hv (fun k hk => ⟨fun hs => (hvT k hk).1 (k7 k hs), (hvT k hk).2⟩) hx h1 hq hn).mono ?_
  rintro e w' ⟨rfl, vh', vw', r1, r2, r3⟩
  refine ⟨rfl, ⟨_, vh', vw', _, r1, by simp [k2], by simp [k2], by simp [k2], fun i hi h0 h1 => ?_, r2, fun k hk => hk.imp (k7 k) id⟩, r3.mono (fun k _ hk => hk.imp id (k7 k))⟩
  rw [Array.getElem?_setIfInBounds_ne (by omega), Array.getElem?_setIfInBounds_ne (by omega)]
  exact k5 i hi h0 h1
theorem Bks.wide {T T' : Nat → Prop} {w : World} {B base : Nat} {L : List Lst} (h : Bks T w B base L) (hT : ∀ k, T k → T' k) : Bks T' w B base L := by
  obtain ⟨cur, vh, vw, S, k1, k2, k3, k4, k5, k6, k7⟩ := h
  exact ⟨cur, vh, vw, S, k1, k2, k3, k4, k5, k6, fun k hk => hT k (k7 k hk)⟩
theorem Bks.row {T : Nat → Prop} {w : World} {B base : Nat} {L : List Lst} (h : Bks T w B base L) (j : Nat) (hj : j < L.length) : w.ownsRow base 9 1 L[j].v L[j].n L[j].xs := by
  obtain ⟨cur, vh, vw, S, k1, k2, k3, k4, k5, k6, k7⟩ := h
  exact k6.rows j hj
theorem Bks.apart {T : Nat → Prop} {w : World} {B base : Nat} {L : List Lst} (h : Bks T w B base L) (hn : L.length < 250) (hx : ∀ l ∈ L, l.xs.length = l.n ∧ AllT l.xs ∧ l.n ≤ 1000000) (hb : base ≤ w.heap.size) :
    Calls Tryz.prog 20 #[.pointer (some ⟨B, 0, none⟩)] w fun e w' => e = .returned (.bool true) ∧ Chg T w w' := by
  obtain ⟨cur, vh, vw, S, k1, k2, k3, k4, k5, k6, k7⟩ := h
  refine (apart_T k6 k1 k3 k4 k5 hn hx hb).mono ?_
  rintro e w' ⟨rfl, hc⟩
  exact ⟨rfl, hc.mono (fun k _ hk => k7 k hk)⟩
end Go.Proofs.YtaecfgakgpndaaaGreat
