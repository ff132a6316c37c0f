/- One disk of the call's own: its methods, what was there ahead of the call told in one word. No condition. -/
import Derived.Test.YtofejnhnnmnfpaaDoorDn
namespace Go.Proofs.YtofejnhnnmnfpaaDoor.Dq
set_option maxRecDepth 100000
open Go.RowKit

def DIn (H : Nat) (w0 w : World) (B : Nat) (d : Dk) : Prop := ∃ rs rp m, DAt w B rs rp m d ∧ (∀ k, DS B rs rp m k → H ≤ k) ∧ Below H w0 w ∧ H ≤ w.heap.size

section
variable {H B : Nat} {w0 w : World} {d : Dk}
theorem DIn.was (h : DIn H w0 w B d) : Below H w0 w ∧ H ≤ w.heap.size := by obtain ⟨_, _, _, _, _, h1, h2⟩ := h; exact ⟨h1, h2⟩
theorem DIn.ok (h : DIn H w0 w B d) : d.Ok := by obtain ⟨_, _, _, h, _⟩ := h; exact h.1
theorem DIn.step {w' : World} {rs rp : Option Nat} {m : Nat} {d' : Dk} (hk : ∀ k, DS B rs rp m k → H ≤ k) (hb : Below H w0 w) (hz : H ≤ w.heap.size) (h : DPost w w' B rs rp m d') : DIn H w0 w' B d' := by
  obtain ⟨rp', ha, hc, hr⟩ := h
  refine ⟨rs, rp', m, ha, ?_, hb.trans (hc.below (fun k _ e => hk k e) hz), Nat.le_trans hz hc.size⟩
  intro k e
  rcases e with e | e | e | e
  · exact hk k (.inl e)
  · exact hk k (.inr (.inl e))
  · rcases hr with rfl | hr
    · exact hk k (.inr (.inr (.inl e)))
    · exact Nat.le_trans hz (hr k e)
  · exact hk k (.inr (.inr (.inr e)))
/-- New blocks leave it. -/
theorem DIn.more {w1 : World} (h : DIn H w0 w B d) (c : Below w.heap.size w w1) : DIn H w0 w1 B d := by
  obtain ⟨rs, rp, m, ha, hk, hb, hz⟩ := h
  exact ⟨rs, rp, m, ha.keep (Chg.of_below (S := fun _ => False) c) (fun _ _ h => h), hk, hb.trans (c.mono hz), Nat.le_trans hz c.size⟩
theorem DIn.more' {w1 : World} (h : DIn H w0 w B d) (c : Chg (fun _ => False) w w1) : DIn H w0 w1 B d := by
  obtain ⟨rs, rp, m, ha, hk, hb, hz⟩ := h
  exact ⟨rs, rp, m, ha.keep c (fun _ _ h => h), hk, hb.trans (c.below (fun _ _ h => h.elim) hz), Nat.le_trans hz c.size⟩

theorem iNew (n : Nat) (h1 : 1 ≤ n) (h2 : n ≤ 10000) (hb : Below H w0 w) (hz : H ≤ w.heap.size) : Calls Tryd.prog 10 #[.int .i64 n] w fun e w' => ∃ B, e = .returned (.pointer (some ⟨B, 0, none⟩)) ∧ DIn H w0 w' B (dnew n) :=
  (kNew n w h1 h2).mono fun _ _ ⟨B, rs, m, he, ha, hbel, hk⟩ => ⟨B, he, rs, none, m, ha, fun k e => Nat.le_trans hz (hk k e), hb.trans (hbel.mono hz), Nat.le_trans hz hbel.size⟩
theorem iDead (h : DIn H w0 w B d) : Calls Tryd.prog 46 #[.pointer (some ⟨B, 0, none⟩)] w fun e w' => e = .returned (.bool d.dead) ∧ w = w' := by
  obtain ⟨rs, rp, m, ha, _⟩ := h; exact kDead ha
theorem iSectors (h : DIn H w0 w B d) : Calls Tryd.prog 28 #[.pointer (some ⟨B, 0, none⟩)] w fun e w' => e = .returned (.int .i64 (d.safe.length : Int)) ∧ w = w' := by
  obtain ⟨rs, rp, m, ha, _⟩ := h; exact kSectors ha
theorem iPending (h : DIn H w0 w B d) : Calls Tryd.prog 25 #[.pointer (some ⟨B, 0, none⟩)] w fun e w' => e = .returned (.int .i64 (d.pend.length : Int)) ∧ w = w' := by
  obtain ⟨rs, rp, m, ha, _⟩ := h; exact kPending ha
theorem iRead (n : Int) {s : List UInt8} {x : Int} (q : dread d n = (s, x)) (h : DIn H w0 w B d) : Calls Tryd.prog 29 #[.pointer (some ⟨B, 0, none⟩), .int .i64 n] w fun e w' => e = .returned (.tuple #[.string (mk s), .int .i64 x]) ∧ w = w' := by
  obtain ⟨rs, rp, m, ha, _⟩ := h
  have := kRead n ha
  rw [q] at this
  exact this
theorem iWrite (n : Int) (s : List UInt8) {d' : Dk} {x : Int} (q : dwrite d n s = (d', x)) (hmany : d.pend.length < 1000000) (h : DIn H w0 w B d) :
    Calls Tryd.prog 35 #[.pointer (some ⟨B, 0, none⟩), .int .i64 n, .string (mk s)] w fun e w' => e = .returned (.int .i64 x) ∧ DIn H w0 w' B d' := by
  obtain ⟨rs, rp, m, ha, hk, hb, hz⟩ := h
  refine (kWrite n s ha hmany).mono fun e w' ⟨he, hp⟩ => ?_
  rw [q] at he hp
  exact ⟨he, DIn.step hk hb hz hp⟩
theorem iSync {d' : Dk} {x : Int} (q : dsync d = (d', x)) (h : DIn H w0 w B d) : Calls Tryd.prog 36 #[.pointer (some ⟨B, 0, none⟩)] w fun e w' => e = .returned (.int .i64 x) ∧ DIn H w0 w' B d' := by
  obtain ⟨rs, rp, m, ha, hk, hb, hz⟩ := h
  refine (kSync ha).mono fun e w' ⟨he, hp⟩ => ?_
  rw [q] at he hp
  exact ⟨he, DIn.step hk hb hz hp⟩
theorem iStop (n : Int) {d' : Dk} (q : dstop d n = d') (hn : n ≤ 9223372036854775807) (hn0 : -9223372036854775808 ≤ n) (h : DIn H w0 w B d) : Calls Tryd.prog 23 #[.pointer (some ⟨B, 0, none⟩), .int .i64 n] w fun e w' => e = .returned (.tuple #[]) ∧ DIn H w0 w' B d' := by
  obtain ⟨rs, rp, m, ha, hk, hb, hz⟩ := h
  refine (kStop n ha hn hn0).mono fun e w' ⟨he, hp⟩ => ?_
  rw [q] at hp
  exact ⟨he, DIn.step hk hb hz hp⟩
theorem iCrash (ak : Option Addr) (ck : Nat) (ks : List Bool) {d' : Dk} {n : Nat} (q : dcrash d ks = (d', n)) (hv : BAt w ak ks) (hks : ks.length ≤ 1000000) (h : DIn H w0 w B d) :
    Calls Tryd.prog 24 #[.pointer (some ⟨B, 0, none⟩), .slice ak ks.length ck] w fun e w' => e = .returned (.int .i64 n) ∧ DIn H w0 w' B d' := by
  obtain ⟨rs, rp, m, ha, hk, hb, hz⟩ := h
  refine (kCrash ak ck ks ha hv hks).mono fun e w' ⟨he, hp⟩ => ?_
  rw [q] at he hp
  exact ⟨he, DIn.step hk hb hz hp⟩
end
end Go.Proofs.YtofejnhnnmnfpaaDoor.Dq
