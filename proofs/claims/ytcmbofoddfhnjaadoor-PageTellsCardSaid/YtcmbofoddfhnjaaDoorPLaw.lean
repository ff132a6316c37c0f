/- Pages as bytes: plain facts. No condition. -/
import Derived.Test.YtcmbofoddfhnjaaDoorFPlain
namespace Go.Proofs.YtcmbofoddfhnjaaDoor
open Go.RowKit

/-- A page. -/
structure Pg where
  kind : Int
  depth : Int
  next : Int
  body : List UInt8
deriving DecidableEq
def zs (n : Nat) : List UInt8 := List.replicate n 0
theorem zs_length (n : Nat) : (zs n).length = n := List.length_replicate ..
def pgOk (p : Pg) : Bool := decide (0 ≤ p.kind) && decide (p.kind ≤ 5) && decide (0 ≤ p.depth) && decide (p.depth ≤ 5) && decide (0 ≤ p.next) && decide (p.next < 64) && decide (p.body.length = 240)
theorem pgOk_iff {p : Pg} : pgOk p = true ↔ 0 ≤ p.kind ∧ p.kind ≤ 5 ∧ 0 ≤ p.depth ∧ p.depth ≤ 5 ∧ 0 ≤ p.next ∧ p.next < 64 ∧ p.body.length = 240 := by
  simp [pgOk, and_assoc]
def byteOf (x : Int) : UInt8 := UInt8.ofNat x.toNat
/-- The bytes of a page that may be. -/
def penc (p : Pg) : List UInt8 := [80, 71, byteOf p.kind, byteOf p.depth, 0, byteOf p.next] ++ zs 10 ++ p.body
theorem penc_length {p : Pg} (h : p.body.length = 240) : (penc p).length = 256 := by simp [penc, zs_length, h]
def pgOf (b : List UInt8) : Pg := { kind := (b.getD 2 0).toNat, depth := (b.getD 3 0).toNat, next := (b.getD 4 0).toNat * 256 + (b.getD 5 0).toNat, body := b.drop 16 }
def pdec (b : List UInt8) : Option Pg :=
  if b.length = 256 then
    if b = zs 256 then some ⟨0, 0, 0, zs 240⟩
    else if pgOk (pgOf b) = true ∧ penc (pgOf b) = b then some (pgOf b) else none
  else none
theorem byteOf_toNat {x : Int} (h0 : 0 ≤ x) (h1 : x < 256) : ((byteOf x).toNat : Int) = x := by
  rw [byteOf, UInt8.toNat_ofNat']; omega
theorem pgOf_penc {p : Pg} (h : pgOk p = true) : pgOf (penc p) = p := by
  obtain ⟨h1, h2, h3, h4, h5, h6, h7⟩ := pgOk_iff.1 h
  have e1 := byteOf_toNat h1 (by omega)
  have e2 := byteOf_toNat h3 (by omega)
  have e3 := byteOf_toNat h5 (by omega)
  have e : pgOf (penc p) = ⟨(byteOf p.kind).toNat, (byteOf p.depth).toNat, ((0 : UInt8).toNat : Int) * 256 + (byteOf p.next).toNat, p.body⟩ := rfl
  have e0 : ((0 : UInt8).toNat : Int) * 256 + p.next = p.next := by rw [show (0 : UInt8).toNat = 0 from rfl]; omega
  rw [e, e1, e2, e3, e0]
theorem penc_nz (p : Pg) : penc p ≠ zs 256 := by
  intro h
  have h0 : (80 : UInt8) = 0 := congrArg (fun l => l.getD 0 0) h
  exact absurd h0 (by decide)
theorem pdec_penc {p : Pg} (h : pgOk p = true) : pdec (penc p) = some p := by
  rw [pdec, if_pos (penc_length (pgOk_iff.1 h).2.2.2.2.2.2), if_neg (penc_nz p), pgOf_penc h, if_pos ⟨h, rfl⟩]
theorem pdec_zs : pdec (zs 256) = some ⟨0, 0, 0, zs 240⟩ := by rw [pdec, if_pos (zs_length _), if_pos rfl]
theorem pdec_some {b : List UInt8} {p : Pg} (h : pdec b = some p) : b.length = 256 ∧ (b = zs 256 ∧ p = ⟨0, 0, 0, zs 240⟩ ∨ b ≠ zs 256 ∧ pgOk p = true ∧ penc p = b) := by
  unfold pdec at h
  split at h
  · rename_i c
    split at h
    · cases h; exact ⟨c, .inl ⟨‹_›, rfl⟩⟩
    · split at h
      · rename_i c2
        cases h
        exact ⟨c, .inr ⟨‹_›, c2.1, c2.2⟩⟩
      · cases h
  · cases h
/-- With one byte turned. -/
theorem pdec_turned {p q : Pg} {b : List UInt8} (h : pdec b = some q) (hb : penc p ≠ b) (hz : b ≠ zs 256) : q ≠ p := by
  intro e
  subst e
  rcases (pdec_some h).2 with ⟨h1, _⟩ | ⟨_, _, h3⟩
  · exact hz h1
  · exact hb h3
end Go.Proofs.YtcmbofoddfhnjaaDoor
