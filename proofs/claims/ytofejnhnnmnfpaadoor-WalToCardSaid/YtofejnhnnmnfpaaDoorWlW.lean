/- A disk and a log on it: crash, pending; a log whose records are all of one size. No condition. -/
import Derived.Test.YtofejnhnnmnfpaaDoorWlV
namespace Go.Proofs.YtofejnhnnmnfpaaDoor
set_option maxRecDepth 100000
open Go.RowKit
section
variable {H B G : Nat} {w0 w w' : World} {d d' : Dq.Dk} {L L' : Lg} {S : List (List UInt8)} {s : Fr.St}
theorem sCrash (ak : Option Addr) (ck : Nat) (ks : List Bool) (hv : Dq.BAt w ak ks) (hks : ks.length ≤ 1000000) (h : Sys H w0 w B d G L) : Calls Tryd.prog 24 #[.pointer (some ⟨B, 0, none⟩), .slice ak ks.length ck] w fun e w' => e = .returned (.int .i64 ((Dq.dcrash d ks).2 : Nat)) ∧ Sys H w0 w' B (Dq.dcrash d ks).1 G L := by
  obtain ⟨rs, rp, m, T, hd, hl, g1, g2, g3, g4⟩ := h
  refine (Dq.kCrash ak ck ks hd hv hks).mono ?_
  rintro e w' ⟨he, hp⟩
  exact ⟨he, sys_disk hl g1 g2 g3 g4 hp⟩
theorem sPending (h : Sys H w0 w B d G L) : Calls Tryd.prog 25 #[.pointer (some ⟨B, 0, none⟩)] w fun e w' => e = .returned (.int .i64 (d.pend.length : Int)) ∧ w = w' := by
  obtain ⟨rs, rp, m, T, hd, _⟩ := h
  exact Dq.kPending hd
/-- The same sectors, another disk. -/
theorem On.same (h : On d L S s) (h1 : d'.safe = d.safe) (h2 : d'.pend = []) (h3 : d'.dead = false) : On d' L S s :=
  ⟨h3, h2, by rw [h1]; exact h.size, by rw [h1]; exact h.room, h.secs, h.ep, h.len, h.fit, by rw [h1]; exact h.sec, by rw [h1]; exact h.rest, h.scan, h.sat, h.send, h.sep, h.slast, h.sl, h.ok⟩
theorem dcrash_none (h : d.pend = []) (ks : List Bool) : (Dq.dcrash d ks).1.safe = d.safe ∧ (Dq.dcrash d ks).1.pend = [] ∧ (Dq.dcrash d ks).1.dead = false ∧ (Dq.dcrash d ks).1.stops = false := by
  refine ⟨?_, rfl, rfl, rfl⟩
  show Dq.dset d.safe (Dq.keptOf d.pend ks) = d.safe
  rw [h]
  rfl
end
/-- Records of one size. -/
theorem stream_all (n : Nat) : ∀ (l : List (List UInt8)), (∀ b ∈ l, b.length = n) → (Fr.stream l).length = l.length * (2 + n)
  | [], _ => by simp [Fr.stream]
  | b :: l, h => by
    rw [Fr.stream_cons, List.length_append, List.length_append, Fr.be_length, h b (by simp), stream_all n l (fun c hc => h c (by simp [hc])), List.length_cons, Nat.succ_mul]
    omega
theorem lcnt_all (n : Nat) (hn : 1 ≤ n) (hn' : n ≤ 65535) (l : List (List UInt8)) (h : ∀ b ∈ l, b.length = n) : lcnt l = (l.length * (2 + n) + 55) / 56 := by
  rw [lcnt_ok (fun b hb => by rw [h b hb]; exact ⟨hn, hn'⟩), Fr.cnt, stream_all n l h]
end Go.Proofs.YtofejnhnnmnfpaaDoor
