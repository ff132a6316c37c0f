/- Two disks of the call's own, apart from one another. No condition. -/
import Derived.Test.YtnphpnbliigfbaaCp
namespace Go.Proofs.Ytnphpnbliigfbaa
open Go.RowKit

def DD (H : Nat) (w0 w : World) (B : Nat) (d : Dk) (B2 : Nat) (d2 : Dk) : Prop :=
  ∃ rs rp m rs2 rp2 m2, DAt w B rs rp m d ∧ DAt w B2 rs2 rp2 m2 d2 ∧ (∀ k, DS B rs rp m k → H ≤ k) ∧ (∀ k, DS B2 rs2 rp2 m2 k → H ≤ k) ∧ (∀ k, DS B rs rp m k → ¬ DS B2 rs2 rp2 m2 k) ∧ Below H w0 w ∧ H ≤ w.heap.size
section
variable {H B B2 : Nat} {w0 w : World} {d d2 : Dk}
theorem DD.swap (h : DD H w0 w B d B2 d2) : DD H w0 w B2 d2 B d := by
  obtain ⟨rs, rp, m, rs2, rp2, m2, h1, h2, k1, k2, hn, hb, hz⟩ := h
  exact ⟨rs2, rp2, m2, rs, rp, m, h2, h1, k2, k1, fun k e f => hn k f e, hb, hz⟩
theorem DD.fst (h : DD H w0 w B d B2 d2) : DIn H w0 w B d := by
  obtain ⟨rs, rp, m, rs2, rp2, m2, h1, h2, k1, k2, hn, hb, hz⟩ := h
  exact ⟨rs, rp, m, h1, k1, hb, hz⟩
theorem DD.more {w1 : World} (h : DD H w0 w B d B2 d2) (c : Below w.heap.size w w1) : DD H w0 w1 B d B2 d2 := by
  obtain ⟨rs, rp, m, rs2, rp2, m2, h1, h2, k1, k2, hn, hb, hz⟩ := h
  have c' : Chg (fun _ => False) w w1 := Chg.of_below c
  exact ⟨rs, rp, m, rs2, rp2, m2, h1.keep c' (fun _ _ h => h), h2.keep c' (fun _ _ h => h), k1, k2, hn, hb.trans (c.mono hz), Nat.le_trans hz c.size⟩
theorem DD.step {w' : World} {rs rp rs2 rp2 : Option Nat} {m m2 : Nat} {d' : Dk} (h1 : DAt w B rs rp m d) (h2 : DAt w B2 rs2 rp2 m2 d2) (k1 : ∀ k, DS B rs rp m k → H ≤ k) (k2 : ∀ k, DS B2 rs2 rp2 m2 k → H ≤ k) (hn : ∀ k, DS B rs rp m k → ¬ DS B2 rs2 rp2 m2 k) (hb : Below H w0 w) (hz : H ≤ w.heap.size)
    (hp : DPost w w' B rs rp m d') : DD H w0 w' B d' B2 d2 := by
  obtain ⟨rp', ha, hc, hr⟩ := hp
  refine ⟨rs, rp', m, rs2, rp2, m2, ha, h2.keep hc (fun k e f => hn k f e), ?_, k2, ?_, hb.trans (hc.below (fun k _ e => k1 k e) hz), Nat.le_trans hz hc.size⟩
  · intro k e
    rcases e with e | e | e | e
    · exact k1 k (.inl e)
    · exact k1 k (.inr (.inl e))
    · rcases hr with rfl | hr
      · exact k1 k (.inr (.inr (.inl e)))
      · exact Nat.le_trans hz (hr k e)
    · exact k1 k (.inr (.inr (.inr e)))
  · intro k e f
    rcases e with e | e | e | e
    · exact hn k (.inl e) f
    · exact hn k (.inr (.inl e)) f
    · rcases hr with rfl | hr
      · exact hn k (.inr (.inr (.inl e))) f
      · have := hr k e
        have := h2.lt k f
        omega
    · exact hn k (.inr (.inr (.inr e))) f
theorem dCopy (h : DIn H w0 w B d) : Calls Try.prog 23 #[.pointer (some ⟨B, 0, none⟩)] w fun e w' => ∃ B2, e = .returned (.pointer (some ⟨B2, 0, none⟩)) ∧ DD H w0 w' B d B2 d := by
  obtain ⟨rs, rp, m, ha, hk, hb, hz⟩ := h
  refine (kCopy ha).mono fun e w' ⟨B2, rs2, rp2, m2, he, h2, hc, hk2⟩ => ⟨B2, he, rs, rp, m, rs2, rp2, m2, ha.keep hc (fun _ _ h => h), h2, hk, fun k e => Nat.le_trans hz (hk2 k e), ?_, hb.trans (hc.below (fun _ _ h => h.elim) hz), Nat.le_trans hz hc.size⟩
  intro k e f
  have := ha.lt k e
  have := hk2 k f
  omega
theorem dWrite (n : Int) (s : List UInt8) {d' : Dk} {x : Int} (q : dwrite d n s = (d', x)) (hmany : d.pend.length < 1000000) (h : DD H w0 w B d B2 d2) :
    Calls Try.prog 14 #[.pointer (some ⟨B, 0, none⟩), .int .i64 n, .string (mk s)] w fun e w' => e = .returned (.int .i64 x) ∧ DD H w0 w' B d' B2 d2 := by
  obtain ⟨rs, rp, m, rs2, rp2, m2, h1, h2, k1, k2, hn, hb, hz⟩ := h
  refine (kWrite n s h1 hmany).mono fun e w' ⟨he, hp⟩ => ?_
  rw [q] at he hp
  exact ⟨he, DD.step h1 h2 k1 k2 hn hb hz hp⟩
theorem dSync {d' : Dk} {x : Int} (q : dsync d = (d', x)) (h : DD H w0 w B d B2 d2) : Calls Try.prog 16 #[.pointer (some ⟨B, 0, none⟩)] w fun e w' => e = .returned (.int .i64 x) ∧ DD H w0 w' B d' B2 d2 := by
  obtain ⟨rs, rp, m, rs2, rp2, m2, h1, h2, k1, k2, hn, hb, hz⟩ := h
  refine (kSync h1).mono fun e w' ⟨he, hp⟩ => ?_
  rw [q] at he hp
  exact ⟨he, DD.step h1 h2 k1 k2 hn hb hz hp⟩
theorem dCrash {d' : Dk} {n : Nat} (q : dcrash d [] = (d', n)) (h : DD H w0 w B d B2 d2) : Calls Try.prog 17 #[.pointer (some ⟨B, 0, none⟩), .slice none 0 0] w fun e w' => e = .returned (.int .i64 n) ∧ DD H w0 w' B d' B2 d2 := by
  obtain ⟨rs, rp, m, rs2, rp2, m2, h1, h2, k1, k2, hn, hb, hz⟩ := h
  refine (kCrash none 0 [] h1 (fun j hj => by simp at hj) (by simp)).mono fun e w' ⟨he, hp⟩ => ?_
  rw [q] at he hp
  exact ⟨he, DD.step h1 h2 k1 k2 hn hb hz hp⟩
end
end Go.Proofs.Ytnphpnbliigfbaa
