/- Batches one behind the other are read as they were written: plain facts, and appends onto one of two own rows. No condition. -/
import Derived.Test.YtaecfgakgpndaaaFLCuts
namespace Go.Proofs.Ytaecfgakgpndaaa
open Go.RowKit

theorem bits_and3 (x : Int) : 0 ≤ bits .and .i64 x 3 ∧ bits .and .i64 x 3 ≤ 3 := by
  have h : (BitVec.ofInt 64 x &&& BitVec.ofInt 64 3).toNat ≤ 3 := by
    rw [BitVec.toNat_and]
    exact Nat.le_trans Nat.and_le_right (by decide)
  have e : bits .and .i64 x 3 = IntKind.i64.wrap ((BitVec.ofInt 64 x &&& BitVec.ofInt 64 3).toNat : Int) := rfl
  rw [e, IntKind.wrap_i64]
  omega

/-- What is read of all, so far. -/
def Bk (all want : List (List UInt8)) (e : Nat) : Prop :=
  ∃ S, (∀ tl, scan st0 (all ++ tl) = scan S tl) ∧ S.at_ = all.length ∧ S.epoch ≤ e ∧ S.end_ = all.length ∧ S.l = want ∧ (want = [] → S = st0 ∧ all = []) ∧ (want ≠ [] → S.last = e) ∧ ∀ x ∈ all, x.length ≤ 140737488351232
theorem Bk.start : Bk [] [] 1 := ⟨st0, fun _ => rfl, rfl, by simp [st0], rfl, rfl, fun _ => ⟨rfl, rfl⟩, fun h => absurd rfl h, fun x hx => by cases hx⟩
theorem Bk.step {all want : List (List UInt8)} {e e' : Nat} (h : Bk all want e) {L : List (List UInt8)} (hL : recsOk L) (hne : L ≠ []) (he : 1 ≤ e') (hle : e ≤ e') (he' : e' ≤ 4294967295) (hi : all.length + cnt L ≤ 65536) :
    Bk (all ++ secs e' all.length true (stream L)) (want ++ L) e' := by
  obtain ⟨S, h1, h2, h3, h4, h5, _, _, h8⟩ := h
  refine ⟨⟨[], true, all.length + cnt L, e', S.l ++ L, all.length + cnt L, e'⟩, fun tl => ?_, ?_, Nat.le_refl _, ?_, by rw [h5], fun h => ?_, fun _ => rfl, fun x hx => (List.mem_append.1 hx).elim (h8 x) (sec_size x)⟩
  · rw [List.append_assoc, h1]
    exact scan_batch hL hne he he' S tl hi h2 (by omega) (by omega)
  · rw [List.length_append, secs_len]; rfl
  · rw [List.length_append, secs_len]; rfl
  · exact absurd (List.append_eq_nil_iff.1 h).2 hne
theorem Bk.done {all want : List (List UInt8)} {e : Nat} (h : Bk all want e) : (scan st0 all).l = want ∧ (scan st0 all).end_ = all.length ∧ (scan st0 all).last = (if want = [] then 0 else e) ∧ (want = [] → all = []) := by
  obtain ⟨S, h1, h2, h3, h4, h5, h6, h7, _⟩ := h
  have h8 := h1 []
  rw [List.append_nil] at h8
  rw [h8, scan]
  refine ⟨h5, h4, ?_, fun h => (h6 h).2⟩
  split
  · rename_i hw
    rw [(h6 hw).1]; rfl
  · rename_i hw
    exact h7 hw

/-- A row of texts, of which one says where it lies. -/
def Two (w0 w : World) (v1 : Value) (l1 : List (List UInt8)) (v2 : Value) (l2 : List (List UInt8)) : Prop :=
  w.ownsRow w0.heap.size 9 1 v1 l1.length (scells l1) ∧ w.ownsRow w0.heap.size 9 1 v2 l2.length (scells l2) ∧ (∀ k, v1.ownBlock = some k → v2.ownBlock ≠ some k) ∧ Below w0.heap.size w0 w
theorem Two.start (w : World) : Two w w (.slice none 0 0) [] (.slice none 0 0) [] := ⟨World.ownsRow_nil _ _ _ _, World.ownsRow_nil _ _ _ _, fun k h => by simp [Value.ownBlock] at h, Below.refl _ _⟩
theorem Two.more {w0 w w' : World} {v1 v2 : Value} {l1 l2 : List (List UInt8)} (h : Two w0 w v1 l1 v2 l2) (hb : Below w.heap.size w w') : Two w0 w' v1 l1 v2 l2 :=
  ⟨(Chg.of_below hb).row h.1 (fun _ _ => id), (Chg.of_below hb).row h.2.1 (fun _ _ => id), h.2.2.1, h.2.2.2.trans (hb.mono h.2.2.2.size)⟩
theorem Two.alloc {w0 w : World} {v1 v2 : Value} {l1 l2 : List (List UInt8)} (h : Two w0 w v1 l1 v2 l2) (o : Obj) : Two w0 (w.alloc o) v1 l1 v2 l2 := h.more ((Below.refl _ _).alloc (Nat.le_refl _) o)
theorem Two.swap {w0 w : World} {v1 v2 : Value} {l1 l2 : List (List UInt8)} (h : Two w0 w v1 l1 v2 l2) : Two w0 w v2 l2 v1 l1 := ⟨h.2.1, h.1, fun k h1 h2 => h.2.2.1 k h2 h1, h.2.2.2⟩
/-- The first one has grown. -/
theorem Two.grow {w0 w w' : World} {v1 v1' v2 : Value} {l1 m1 l2 : List (List UInt8)} {n : Nat} (h : Two w0 w v1 l1 v2 l2) (hown : w'.ownsRow w0.heap.size 9 1 v1' (l1.length + n) (scells l1 ++ scells m1)) (hn : n = m1.length) (hg : w.grownBy w' v1.ownBlock) (hl : v1'.ownBlock = v1.ownBlock ∨ ∀ k, v1'.ownBlock = some k → w.heap.size ≤ k) :
    Two w0 w' v1' (l1 ++ m1) v2 l2 := by
  subst hn
  obtain ⟨h1, h2, h3, h4⟩ := h
  refine ⟨?_, ?_, fun k hk hk2 => ?_, h4.grown hg h4.size (fun k e => (h1.lt k e).1)⟩
  · rw [List.length_append, scells_append]; exact hown
  · refine (Chg.grown (S := fun k => v1.ownBlock = some k) (Chg.refl _ w) hg (fun k _ e => e)).row h2 (fun k hk he => h3 k he hk)
  · rcases hl with hl | hl
    · rw [hl] at hk; exact h3 k hk hk2
    · have := hl k hk
      have := (h2.lt k hk2).2
      omega
end Go.Proofs.Ytaecfgakgpndaaa
