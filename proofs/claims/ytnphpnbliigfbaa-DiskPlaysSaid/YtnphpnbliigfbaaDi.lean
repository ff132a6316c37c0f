/- One disk of the call's own: its methods, what was there ahead of the call told in one word; Zeros, Fill. No condition. -/
import Derived.Test.YtnphpnbliigfbaaDn
namespace Go.Proofs.Ytnphpnbliigfbaa
open Go.RowKit

theorem Try.infoU8 : (Try.prog.info? 5).map (fun i => (i.zero, i.size, i.bytes)) = some (some (.int .u8 0), 1, 1) := by kernel_rfl

def DIn (H : Nat) (w0 w : World) (B : Nat) (d : Dk) : Prop := ∃ rs rp m, DAt w B rs rp m d ∧ (∀ k, DS B rs rp m k → H ≤ k) ∧ Below H w0 w ∧ H ≤ w.heap.size

section
variable {H B : Nat} {w0 w : World} {d : Dk}
theorem DIn.was (h : DIn H w0 w B d) : Below H w0 w ∧ H ≤ w.heap.size := by obtain ⟨_, _, _, _, _, h1, h2⟩ := h; exact ⟨h1, h2⟩
theorem DIn.ok (h : DIn H w0 w B d) : d.Ok := by obtain ⟨_, _, _, h, _⟩ := h; exact h.1
theorem DIn.step {w' : World} {rs rp : Option Nat} {m : Nat} {d' : Dk} (hk : ∀ k, DS B rs rp m k → H ≤ k) (hb : Below H w0 w) (hz : H ≤ w.heap.size) (h : DPost w w' B rs rp m d') : DIn H w0 w' B d' := by
  obtain ⟨rp', ha, hc, hr⟩ := h
  refine ⟨rs, rp', m, ha, ?_, hb.trans (hc.below (fun k _ e => hk k e) hz), Nat.le_trans hz hc.size⟩
  intro k e
  rcases e with e | e | e | e
  · exact hk k (.inl e)
  · exact hk k (.inr (.inl e))
  · rcases hr with rfl | hr
    · exact hk k (.inr (.inr (.inl e)))
    · exact Nat.le_trans hz (hr k e)
  · exact hk k (.inr (.inr (.inr e)))
/-- New blocks leave it. -/
theorem DIn.more {w1 : World} (h : DIn H w0 w B d) (c : Below w.heap.size w w1) : DIn H w0 w1 B d := by
  obtain ⟨rs, rp, m, ha, hk, hb, hz⟩ := h
  exact ⟨rs, rp, m, ha.keep (Chg.of_below (S := fun _ => False) c) (fun _ _ h => h), hk, hb.trans (c.mono hz), Nat.le_trans hz c.size⟩
theorem DIn.more' {w1 : World} (h : DIn H w0 w B d) (c : Chg (fun _ => False) w w1) : DIn H w0 w1 B d := by
  obtain ⟨rs, rp, m, ha, hk, hb, hz⟩ := h
  exact ⟨rs, rp, m, ha.keep c (fun _ _ h => h), hk, hb.trans (c.below (fun _ _ h => h.elim) hz), Nat.le_trans hz c.size⟩

theorem iNew (n : Nat) (h1 : 1 ≤ n) (h2 : n ≤ 10000) (hb : Below H w0 w) (hz : H ≤ w.heap.size) : Calls Try.prog 13 #[.int .i64 n] w fun e w' => ∃ B, e = .returned (.pointer (some ⟨B, 0, none⟩)) ∧ DIn H w0 w' B (dnew n) :=
  (kNew n w h1 h2).mono fun e w' ⟨B, rs, m, he, ha, hbel, hk⟩ => ⟨B, he, rs, none, m, ha, fun k e => Nat.le_trans hz (hk k e), hb.trans (hbel.mono hz), Nat.le_trans hz hbel.size⟩
theorem iDead (h : DIn H w0 w B d) : Calls Try.prog 21 #[.pointer (some ⟨B, 0, none⟩)] w fun e w' => e = .returned (.bool d.dead) ∧ w = w' := by
  obtain ⟨rs, rp, m, ha, _⟩ := h; exact kDead ha
theorem iSectors (h : DIn H w0 w B d) : Calls Try.prog 22 #[.pointer (some ⟨B, 0, none⟩)] w fun e w' => e = .returned (.int .i64 (d.safe.length : Int)) ∧ w = w' := by
  obtain ⟨rs, rp, m, ha, _⟩ := h; exact kSectors ha
theorem iPending (h : DIn H w0 w B d) : Calls Try.prog 18 #[.pointer (some ⟨B, 0, none⟩)] w fun e w' => e = .returned (.int .i64 (d.pend.length : Int)) ∧ w = w' := by
  obtain ⟨rs, rp, m, ha, _⟩ := h; exact kPending ha
theorem iRead (n : Int) {s : List UInt8} {x : Int} (q : dread d n = (s, x)) (h : DIn H w0 w B d) : Calls Try.prog 19 #[.pointer (some ⟨B, 0, none⟩), .int .i64 n] w fun e w' => e = .returned (.tuple #[.string (mk s), .int .i64 x]) ∧ w = w' := by
  obtain ⟨rs, rp, m, ha, _⟩ := h
  have := kRead n ha
  rw [q] at this
  exact this
theorem iWrite (n : Int) (s : List UInt8) {d' : Dk} {x : Int} (q : dwrite d n s = (d', x)) (hmany : d.pend.length < 1000000) (h : DIn H w0 w B d) :
    Calls Try.prog 14 #[.pointer (some ⟨B, 0, none⟩), .int .i64 n, .string (mk s)] w fun e w' => e = .returned (.int .i64 x) ∧ DIn H w0 w' B d' := by
  obtain ⟨rs, rp, m, ha, hk, hb, hz⟩ := h
  refine (kWrite n s ha hmany).mono fun e w' ⟨he, hp⟩ => ?_
  rw [q] at he hp
  exact ⟨he, DIn.step hk hb hz hp⟩
theorem iSync {d' : Dk} {x : Int} (q : dsync d = (d', x)) (h : DIn H w0 w B d) : Calls Try.prog 16 #[.pointer (some ⟨B, 0, none⟩)] w fun e w' => e = .returned (.int .i64 x) ∧ DIn H w0 w' B d' := by
  obtain ⟨rs, rp, m, ha, hk, hb, hz⟩ := h
  refine (kSync ha).mono fun e w' ⟨he, hp⟩ => ?_
  rw [q] at he hp
  exact ⟨he, DIn.step hk hb hz hp⟩
theorem iStop (n : Int) {d' : Dk} (q : dstop d n = d') (hn : n ≤ 9223372036854775807) (hn0 : -9223372036854775808 ≤ n) (h : DIn H w0 w B d) : Calls Try.prog 20 #[.pointer (some ⟨B, 0, none⟩), .int .i64 n] w fun e w' => e = .returned (.tuple #[]) ∧ DIn H w0 w' B d' := by
  obtain ⟨rs, rp, m, ha, hk, hb, hz⟩ := h
  refine (kStop n ha hn hn0).mono fun e w' ⟨he, hp⟩ => ?_
  rw [q] at hp
  exact ⟨he, DIn.step hk hb hz hp⟩
theorem iCrash (ak : Option Addr) (ck : Nat) (ks : List Bool) {d' : Dk} {n : Nat} (q : dcrash d ks = (d', n)) (hv : BAt w ak ks) (hks : ks.length ≤ 1000000) (h : DIn H w0 w B d) :
    Calls Try.prog 17 #[.pointer (some ⟨B, 0, none⟩), .slice ak ks.length ck] w fun e w' => e = .returned (.int .i64 n) ∧ DIn H w0 w' B d' := by
  obtain ⟨rs, rp, m, ha, hk, hb, hz⟩ := h
  refine (kCrash ak ck ks ha hv hks).mono fun e w' ⟨he, hp⟩ => ?_
  rw [q] at he hp
  exact ⟨he, DIn.step hk hb hz hp⟩
end

theorem zeros_made {w w1 : World} {n : Nat} (hown : w1.ownsRow w.heap.size 5 1 (.slice (some ⟨w.heap.size, 0, none⟩) n n) n (madeCells (Value.int .u8 0).cells (n * 1)).toList) (hgrow : w.grownBy w1 none) :
    Below w.heap.size w w1 ∧ (convert 35 9 (.slice (some ⟨w.heap.size, 0, none⟩) n n)).run Try.prog w1 = .ok (.string (mk (List.replicate n 0))) w1 := by
  refine ⟨(Below.refl _ _).grown hgrow (Nat.le_refl _) (fun _ h => by cases h), ?_⟩
  rw [show (Value.int .u8 0).cells = #[Value.int .u8 0] from rfl, toList_madeCells_one, Nat.mul_one] at hown
  refine run_string_own 35 9 Try.underlying35 Try.underlying5 Try.underlying9 (base := w.heap.size) (n := n) ?_
  have e : bcells (List.replicate n 0) = List.replicate n (Value.int .u8 0) := by simp [bcells]
  rw [e]
  exact hown

/-- Zeros. -/
theorem zeros_any (n : Nat) (w : World) (h : n ≤ 100000) : Calls Try.prog 33 #[.int .i64 n] w fun e w' => e = .returned (.string (mk (List.replicate n 0))) ∧ Below w.heap.size w w' := by
  obtain ⟨i, hi, hz0, hz1, hz2⟩ := info_parts Try.infoU8
  go_enter Try.func33, Try.ntmps33
  go_wp2_with (at_make; refine wpList_make_full _ rfl _ _ 35 rfl w.heap.size 5 i (.int .u8 0) 1 Try.underlying35 hi hz0 hz1 _ _ _ _ n rfl rfl rfl rfl (by rw [hz2]; omega) (by unfold maxLen; omega) (Nat.le_refl _) ?_; intro w1 hown hgrow; have hb := zeros_made hown hgrow; have hcv := hb.2; have hbel := hb.1; clear hb hown hgrow)
  go_ret
  exact ⟨rfl, hbel⟩

/-- A text filled to a sector. -/
def fill (l : List UInt8) : List UInt8 := if 64 < l.length then l.take 64 else l ++ List.replicate (64 - l.length) 0
theorem fill_length (l : List UInt8) : (fill l).length = 64 := by
  unfold fill
  split
  · simp; omega
  · simp; omega
theorem mk_append (a b : List UInt8) : mk a ++ mk b = mk (a ++ b) := by
  apply ByteArray.ext
  apply Array.ext'
  simp [mk]
theorem mk_take (l : List UInt8) (n : Nat) : (mk l).extract 0 n = mk (l.take n) := by
  apply ByteArray.ext
  apply Array.ext'
  simp [mk]
theorem fill_any (l : List UInt8) (w : World) : Calls Try.prog 15 #[.string (mk l)] w fun e w' => e = .returned (.string (mk (fill l))) ∧ Below w.heap.size w w' := by
  have hsz := mk_size l
  by_cases h : 64 < l.length
  · have hr : fill l = l.take 64 := if_pos h
    rw [hr]
    have hlt : (64 : Int) < ((mk l).size : Int) := by omega
    have hle : 64 ≤ (mk l).size := by omega
    clear hsz hr
    go_enter Try.func15, Try.ntmps15
    go_wp2
    go_ret
    rw [mk_take]
    exact ⟨rfl, Below.refl _ _⟩
  · have hr : fill l = l ++ List.replicate (64 - l.length) 0 := if_neg h
    rw [hr]
    obtain ⟨k, hk⟩ : ∃ k, k = 64 - l.length := ⟨_, rfl⟩
    rw [← hk]
    have hsub : (64 : Int) - ((mk l).size : Int) = (k : Int) := by omega
    have hlt : ¬ (64 : Int) < ((mk l).size : Int) := by omega
    have hle : (mk l).size ≤ 64 := by omega
    have hz : (mk (List.replicate k (0 : UInt8))).size ≤ 64 := by rw [mk_size]; simp; omega
    have Z := Lib.hid (zeros_any k w (by omega))
    clear hsz hr hk
    generalize List.replicate k (0 : UInt8) = z at *
    go_enter Try.func15, Try.ntmps15
    go_wp2_with (go_at_call 33; refine Z.out.mono ?_; rintro e w' ⟨rfl, hb⟩)
    go_ret
    rw [mk_append]
    exact ⟨rfl, hb⟩
end Go.Proofs.Ytnphpnbliigfbaa
