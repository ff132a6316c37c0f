/- A disk and the document's one beside one another; nil disks. No condition. -/
import Derived.Test.YtnphpnbliigfbaaRD2
import Derived.Test.YtnphpnbliigfbaaDd
namespace Go.Proofs.Ytnphpnbliigfbaa
open Go.RowKit
/-- Both of the call's own (blocks H and above, none of K). -/
def PD (H : Nat) (K : Nat → Prop) (w0 w : World) (B : Nat) (d : Dk) (R : Nat) (e : Dk) : Prop :=
  ∃ rs rp m rs2 rp2, DAt w B rs rp m d ∧ RAt w R rs2 rp2 e ∧ (∀ k, DS B rs rp m k → H ≤ k ∧ ¬ K k) ∧ (∀ k, RS R rs2 rp2 k → H ≤ k ∧ ¬ K k) ∧ (∀ k, DS B rs rp m k → ¬ RS R rs2 rp2 k) ∧ Below H w0 w ∧ H ≤ w.heap.size ∧ ∀ k, K k → k < w.heap.size
section
variable {H : Nat} {K : Nat → Prop} {w0 w w' : World} {B R : Nat} {d e : Dk}
theorem PD.was (h : PD H K w0 w B d R e) : Below H w0 w ∧ H ≤ w.heap.size := by obtain ⟨_, _, _, _, _, _, _, _, _, _, h1, h2, _⟩ := h; exact ⟨h1, h2⟩
theorem PD.ok (h : PD H K w0 w B d R e) : d.Ok ∧ e.Ok := by obtain ⟨_, _, _, _, _, h1, h2, _⟩ := h; exact ⟨h1.1, h2.1⟩
theorem PD.kept {S : Nat → Prop} (h : PD H K w0 w B d R e) (hc : Chg S w w') (hS : ∀ k, S k → k < w.heap.size → H ≤ k ∧ K k) : PD H K w0 w' B d R e := by
  obtain ⟨rs, rp, m, rs2, rp2, h1, h2, k1, k2, hn, hb, hz, hK⟩ := h
  exact ⟨rs, rp, m, rs2, rp2, h1.keep hc (fun k a b => (k1 k a).2 (hS k b (h1.lt k a)).2), h2.keep hc (fun k a b => (k2 k a).2 (hS k b (h2.lt k a)).2), k1, k2, hn, hb.trans (hc.below (fun k hk b => (hS k b hk).1) hz), Nat.le_trans hz hc.size, fun k hk => Nat.lt_of_lt_of_le (hK k hk) hc.size⟩
theorem PD.more (h : PD H K w0 w B d R e) (hb : Below w.heap.size w w') : PD H K w0 w' B d R e := h.kept (S := fun _ => False) (Chg.of_below hb) (fun _ h => h.elim)
theorem PD.widen (h : PD H K w0 w B d R e) (hg : w.grownBy w' none) (hs : w'.heap.size = w.heap.size + 1) : PD H (fun k => K k ∨ k = w.heap.size) w0 w' B d R e := by
  obtain ⟨rs, rp, m, rs2, rp2, h1, h2, k1, k2, hn, hb, hz, hK⟩ := h
  have hc : Chg (fun _ => False) w w' := (Chg.refl _ w).grown hg (fun j _ e => by cases e)
  refine ⟨rs, rp, m, rs2, rp2, h1.keep hc (fun _ _ h => h), h2.keep hc (fun _ _ h => h), fun k hk => ⟨(k1 k hk).1, fun e => e.elim (k1 k hk).2 (fun e => by have := h1.lt k hk; omega)⟩, fun k hk => ⟨(k2 k hk).1, fun e => e.elim (k2 k hk).2 (fun e => by have := h2.lt k hk; omega)⟩, hn, hb.trans (hc.below (fun _ _ h => h.elim) hz), by omega, fun k hk => ?_⟩
  rcases hk with hk | hk
  · have := hK k hk; omega
  · omega
theorem PD.shrink {K' : Nat → Prop} (h : PD H K w0 w B d R e) (hK : ∀ k, K' k → K k) : PD H K' w0 w B d R e := by
  obtain ⟨rs, rp, m, rs2, rp2, h1, h2, k1, k2, hn, hb, hz, hK0⟩ := h
  exact ⟨rs, rp, m, rs2, rp2, h1, h2, fun k a => ⟨(k1 k a).1, fun b => (k1 k a).2 (hK k b)⟩, fun k a => ⟨(k2 k a).1, fun b => (k2 k a).2 (hK k b)⟩, hn, hb, hz, fun k a => hK0 k (hK k a)⟩
theorem PD.stepD {rs rp rs2 rp2 : Option Nat} {m : Nat} {d' : Dk} (h1 : DAt w B rs rp m d) (h2 : RAt w R rs2 rp2 e) (k1 : ∀ k, DS B rs rp m k → H ≤ k ∧ ¬ K k) (k2 : ∀ k, RS R rs2 rp2 k → H ≤ k ∧ ¬ K k) (hn : ∀ k, DS B rs rp m k → ¬ RS R rs2 rp2 k) (hb : Below H w0 w) (hz : H ≤ w.heap.size) (hK : ∀ k, K k → k < w.heap.size)
    (hp : DPost w w' B rs rp m d') : PD H K w0 w' B d' R e ∧ Chg (fun k => ¬ K k) w w' := by
  obtain ⟨rp', ha, hc, hr⟩ := hp
  refine ⟨⟨rs, rp', m, rs2, rp2, ha, h2.keep hc (fun k a f => hn k f a), ?_, k2, ?_, hb.trans (hc.below (fun k _ a => (k1 k a).1) hz), Nat.le_trans hz hc.size, fun k a => Nat.lt_of_lt_of_le (hK k a) hc.size⟩, hc.mono (fun k _ a => (k1 k a).2)⟩
  · intro k a
    rcases a with a | a | a | a
    · exact k1 k (.inl a)
    · exact k1 k (.inr (.inl a))
    · rcases hr with rfl | hr
      · exact k1 k (.inr (.inr (.inl a)))
      · exact ⟨Nat.le_trans hz (hr k a), fun b => by have := hK k b; have := hr k a; omega⟩
    · exact k1 k (.inr (.inr (.inr a)))
  · intro k a f
    rcases a with a | a | a | a
    · exact hn k (.inl a) f
    · exact hn k (.inr (.inl a)) f
    · rcases hr with rfl | hr
      · exact hn k (.inr (.inr (.inl a))) f
      · have := hr k a
        have := h2.lt k f
        omega
    · exact hn k (.inr (.inr (.inr a))) f
theorem PD.stepR {rs rp rs2 rp2 : Option Nat} {m : Nat} {e' : Dk} (h1 : DAt w B rs rp m d) (h2 : RAt w R rs2 rp2 e) (k1 : ∀ k, DS B rs rp m k → H ≤ k ∧ ¬ K k) (k2 : ∀ k, RS R rs2 rp2 k → H ≤ k ∧ ¬ K k) (hn : ∀ k, DS B rs rp m k → ¬ RS R rs2 rp2 k) (hb : Below H w0 w) (hz : H ≤ w.heap.size) (hK : ∀ k, K k → k < w.heap.size)
    (hp : RPost w w' R rs2 rp2 e') : PD H K w0 w' B d R e' ∧ Chg (fun k => ¬ K k) w w' := by
  obtain ⟨rp', ha, hc, hr⟩ := hp
  refine ⟨⟨rs, rp, m, rs2, rp', h1.keep hc (fun k a f => hn k a f), ha, k1, ?_, ?_, hb.trans (hc.below (fun k _ a => (k2 k a).1) hz), Nat.le_trans hz hc.size, fun k a => Nat.lt_of_lt_of_le (hK k a) hc.size⟩, hc.mono (fun k _ a => (k2 k a).2)⟩
  · intro k a
    rcases a with a | a | a
    · exact k2 k (.inl a)
    · exact k2 k (.inr (.inl a))
    · rcases hr with rfl | hr
      · exact k2 k (.inr (.inr a))
      · exact ⟨Nat.le_trans hz (hr k a), fun b => by have := hK k b; have := hr k a; omega⟩
  · intro k f a
    rcases a with a | a | a
    · exact hn k f (.inl a)
    · exact hn k f (.inr (.inl a))
    · rcases hr with rfl | hr
      · exact hn k f (.inr (.inr a))
      · have := hr k a
        have := h1.lt k f
        omega
/-! ### the methods -/
theorem pDead (h : PD H K w0 w B d R e) : Calls Try.prog 21 #[.pointer (some ⟨B, 0, none⟩)] w fun en w' => en = .returned (.bool d.dead) ∧ w = w' := by obtain ⟨_, _, _, _, _, h1, _⟩ := h; exact kDead h1
theorem pSectors (h : PD H K w0 w B d R e) : Calls Try.prog 22 #[.pointer (some ⟨B, 0, none⟩)] w fun en w' => en = .returned (.int .i64 (d.safe.length : Int)) ∧ w = w' := by obtain ⟨_, _, _, _, _, h1, _⟩ := h; exact kSectors h1
theorem pPending (h : PD H K w0 w B d R e) : Calls Try.prog 18 #[.pointer (some ⟨B, 0, none⟩)] w fun en w' => en = .returned (.int .i64 (d.pend.length : Int)) ∧ w = w' := by obtain ⟨_, _, _, _, _, h1, _⟩ := h; exact kPending h1
theorem pRead (n : Int) {s : List UInt8} {x : Int} (q : dread d n = (s, x)) (h : PD H K w0 w B d R e) : Calls Try.prog 19 #[.pointer (some ⟨B, 0, none⟩), .int .i64 n] w fun en w' => en = .returned (.tuple #[.string (mk s), .int .i64 x]) ∧ w = w' := by
  obtain ⟨_, _, _, _, _, h1, _⟩ := h
  have := kRead n h1
  rw [q] at this
  exact this
theorem pRRead (n : Int) {s : List UInt8} {x : Int} (q : dread e n = (s, x)) (h : PD H K w0 w B d R e) : Calls Try.prog 25 #[.pointer (some ⟨R, 0, none⟩), .int .i64 n] w fun en w' => en = .returned (.tuple #[.string (mk s), .int .i64 x]) ∧ w = w' := by
  obtain ⟨_, _, _, _, _, _, h2, _⟩ := h
  have := rRead n h2
  rw [q] at this
  exact this
theorem pWrite (n : Int) (s : List UInt8) {d' : Dk} {x : Int} (q : dwrite d n s = (d', x)) (hm : d.pend.length < 1000000) (h : PD H K w0 w B d R e) :
    Calls Try.prog 14 #[.pointer (some ⟨B, 0, none⟩), .int .i64 n, .string (mk s)] w fun en w' => en = .returned (.int .i64 x) ∧ PD H K w0 w' B d' R e ∧ Chg (fun k => ¬ K k) w w' := by
  obtain ⟨rs, rp, m, rs2, rp2, h1, h2, k1, k2, hn, hb, hz, hK⟩ := h
  refine (kWrite n s h1 hm).mono fun en w' ⟨he, hp⟩ => ?_
  rw [q] at he hp
  exact ⟨he, PD.stepD h1 h2 k1 k2 hn hb hz hK hp⟩
theorem pRWrite (n : Int) (s : List UInt8) {e' : Dk} {x : Int} (q : dwrite e n s = (e', x)) (hm : e.pend.length < 1000000) (h : PD H K w0 w B d R e) :
    Calls Try.prog 26 #[.pointer (some ⟨R, 0, none⟩), .int .i64 n, .string (mk s)] w fun en w' => en = .returned (.int .i64 x) ∧ PD H K w0 w' B d R e' ∧ Chg (fun k => ¬ K k) w w' := by
  obtain ⟨rs, rp, m, rs2, rp2, h1, h2, k1, k2, hn, hb, hz, hK⟩ := h
  refine (rWrite n s h2 hm).mono fun en w' ⟨he, hp⟩ => ?_
  rw [q] at he hp
  exact ⟨he, PD.stepR h1 h2 k1 k2 hn hb hz hK hp⟩
theorem pSync {d' : Dk} {x : Int} (q : dsync d = (d', x)) (h : PD H K w0 w B d R e) : Calls Try.prog 16 #[.pointer (some ⟨B, 0, none⟩)] w fun en w' => en = .returned (.int .i64 x) ∧ PD H K w0 w' B d' R e ∧ Chg (fun k => ¬ K k) w w' := by
  obtain ⟨rs, rp, m, rs2, rp2, h1, h2, k1, k2, hn, hb, hz, hK⟩ := h
  refine (kSync h1).mono fun en w' ⟨he, hp⟩ => ?_
  rw [q] at he hp
  exact ⟨he, PD.stepD h1 h2 k1 k2 hn hb hz hK hp⟩
theorem pRSync {e' : Dk} {x : Int} (q : dsync e = (e', x)) (h : PD H K w0 w B d R e) : Calls Try.prog 27 #[.pointer (some ⟨R, 0, none⟩)] w fun en w' => en = .returned (.int .i64 x) ∧ PD H K w0 w' B d R e' ∧ Chg (fun k => ¬ K k) w w' := by
  obtain ⟨rs, rp, m, rs2, rp2, h1, h2, k1, k2, hn, hb, hz, hK⟩ := h
  refine (rSync h2).mono fun en w' ⟨he, hp⟩ => ?_
  rw [q] at he hp
  exact ⟨he, PD.stepR h1 h2 k1 k2 hn hb hz hK hp⟩
theorem pStop (n : Int) {d' : Dk} (q : dstop d n = d') (hn1 : n ≤ 9223372036854775807) (hn0 : -9223372036854775808 ≤ n) (h : PD H K w0 w B d R e) : Calls Try.prog 20 #[.pointer (some ⟨B, 0, none⟩), .int .i64 n] w fun en w' => en = .returned (.tuple #[]) ∧ PD H K w0 w' B d' R e ∧ Chg (fun k => ¬ K k) w w' := by
  obtain ⟨rs, rp, m, rs2, rp2, h1, h2, k1, k2, hn, hb, hz, hK⟩ := h
  refine (kStop n h1 hn1 hn0).mono fun en w' ⟨he, hp⟩ => ?_
  rw [q] at hp
  exact ⟨he, PD.stepD h1 h2 k1 k2 hn hb hz hK hp⟩
theorem pRStop (n : Int) {e' : Dk} (q : dstop e n = e') (hn1 : n ≤ 9223372036854775807) (h : PD H K w0 w B d R e) : Calls Try.prog 28 #[.pointer (some ⟨R, 0, none⟩), .int .i64 n] w fun en w' => en = .returned (.tuple #[]) ∧ PD H K w0 w' B d R e' ∧ Chg (fun k => ¬ K k) w w' := by
  obtain ⟨rs, rp, m, rs2, rp2, h1, h2, k1, k2, hn, hb, hz, hK⟩ := h
  refine (rStop n hn1 h2).mono fun en w' ⟨he, hp, hc⟩ => ?_
  rw [q] at hp
  exact ⟨he, PD.stepR h1 h2 k1 k2 hn hb hz hK ⟨rp2, hp, hc, .inl rfl⟩⟩
theorem pCrash (ak : Option Addr) (ck : Nat) (ks : List Bool) {d' : Dk} {n : Nat} (q : dcrash d ks = (d', n)) (hv : BAt w ak ks) (hks : ks.length ≤ 1000000) (h : PD H K w0 w B d R e) :
    Calls Try.prog 17 #[.pointer (some ⟨B, 0, none⟩), .slice ak ks.length ck] w fun en w' => en = .returned (.int .i64 n) ∧ PD H K w0 w' B d' R e ∧ Chg (fun k => ¬ K k) w w' := by
  obtain ⟨rs, rp, m, rs2, rp2, h1, h2, k1, k2, hn, hb, hz, hK⟩ := h
  refine (kCrash ak ck ks h1 hv hks).mono fun en w' ⟨he, hp⟩ => ?_
  rw [q] at he hp
  exact ⟨he, PD.stepD h1 h2 k1 k2 hn hb hz hK hp⟩
theorem pRCrash (ak : Option Addr) (ck : Nat) (ks : List Bool) {e' : Dk} {n : Nat} (q : dcrash e ks = (e', n)) (hv : BAt w ak ks) (hak : 0 < ks.length → ∀ b o, ak = some ⟨b, o, none⟩ → b < H) (h : PD H K w0 w B d R e) :
    Calls Try.prog 29 #[.pointer (some ⟨R, 0, none⟩), .slice ak ks.length ck] w fun en w' => en = .returned (.int .i64 n) ∧ PD H K w0 w' B d R e' ∧ Chg (fun k => ¬ K k) w w' := by
  obtain ⟨rs, rp, m, rs2, rp2, h1, h2, k1, k2, hn, hb, hz, hK⟩ := h
  refine (rCrash ak ck ks h2 hv (fun h0 b o e1 e2 => by have := hak h0 b o e1; have := (k2 b (.inr (.inl e2))).1; omega)).mono fun en w' ⟨he, hp⟩ => ?_
  rw [q] at he hp
  exact ⟨he, PD.stepR h1 h2 k1 k2 hn hb hz hK hp⟩
/-- A copy; the elder one goes on by itself. -/
def PC (H : Nat) (K : Nat → Prop) (w0 w : World) (B : Nat) (d : Dk) (C : Nat) (c : Dk) (R : Nat) (e : Dk) : Prop :=
  ∃ rs rp m rs3 rp3 m3 rs2 rp2, DAt w B rs rp m d ∧ DAt w C rs3 rp3 m3 c ∧ RAt w R rs2 rp2 e ∧ (∀ k, DS B rs rp m k → H ≤ k ∧ ¬ K k) ∧ (∀ k, DS C rs3 rp3 m3 k → H ≤ k ∧ ¬ K k) ∧ (∀ k, RS R rs2 rp2 k → H ≤ k ∧ ¬ K k) ∧ (∀ k, DS B rs rp m k → ¬ RS R rs2 rp2 k) ∧ (∀ k, DS C rs3 rp3 m3 k → ¬ RS R rs2 rp2 k) ∧ (∀ k, DS B rs rp m k → ¬ DS C rs3 rp3 m3 k) ∧ Below H w0 w ∧ H ≤ w.heap.size ∧ ∀ k, K k → k < w.heap.size
theorem pCopy (h : PD H K w0 w B d R e) : Calls Try.prog 23 #[.pointer (some ⟨B, 0, none⟩)] w fun en w' => ∃ C, en = .returned (.pointer (some ⟨C, 0, none⟩)) ∧ PC H K w0 w' B d C d R e ∧ Chg (fun k => ¬ K k) w w' := by
  obtain ⟨rs, rp, m, rs2, rp2, h1, h2, k1, k2, hn, hb, hz, hK⟩ := h
  refine (kCopy h1).mono fun en w' ⟨C, rs3, rp3, m3, he, h3, hc, hk3⟩ => ⟨C, he, ⟨rs, rp, m, rs3, rp3, m3, rs2, rp2, h1.keep hc (fun _ _ h => h), h3, h2.keep hc (fun _ _ h => h), k1, fun k a => ⟨Nat.le_trans hz (hk3 k a), fun b => by have := hK k b; have := hk3 k a; omega⟩, k2, hn, fun k a b => by have := hk3 k a; have := h2.lt k b; omega, fun k a b => by have := hk3 k b; have := h1.lt k a; omega, hb.trans (hc.below (fun _ _ h => h.elim) hz), Nat.le_trans hz hc.size, fun k a => Nat.lt_of_lt_of_le (hK k a) hc.size⟩, hc.mono (fun _ _ h => h.elim)⟩
theorem PC.step {C : Nat} {c d' : Dk} {rs rp rs3 rp3 rs2 rp2 : Option Nat} {m m3 : Nat} (h1 : DAt w B rs rp m d) (h3 : DAt w C rs3 rp3 m3 c) (h2 : RAt w R rs2 rp2 e) (k1 : ∀ k, DS B rs rp m k → H ≤ k ∧ ¬ K k) (k3 : ∀ k, DS C rs3 rp3 m3 k → H ≤ k ∧ ¬ K k) (k2 : ∀ k, RS R rs2 rp2 k → H ≤ k ∧ ¬ K k) (hn : ∀ k, DS B rs rp m k → ¬ RS R rs2 rp2 k) (hn2 : ∀ k, DS C rs3 rp3 m3 k → ¬ RS R rs2 rp2 k) (hn3 : ∀ k, DS B rs rp m k → ¬ DS C rs3 rp3 m3 k) (hb : Below H w0 w) (hz : H ≤ w.heap.size) (hK : ∀ k, K k → k < w.heap.size)
    (hp : DPost w w' B rs rp m d') : PC H K w0 w' B d' C c R e ∧ Chg (fun k => ¬ K k) w w' := by
  obtain ⟨rp', ha, hc, hr⟩ := hp
  have hfr : ∀ k, DS B rs rp' m k → DS B rs rp m k ∨ w.heap.size ≤ k := by
    intro k a
    rcases a with a | a | a | a
    · exact .inl (.inl a)
    · exact .inl (.inr (.inl a))
    · rcases hr with rfl | hr
      · exact .inl (.inr (.inr (.inl a)))
      · exact .inr (hr k a)
    · exact .inl (.inr (.inr (.inr a)))
  refine ⟨⟨rs, rp', m, rs3, rp3, m3, rs2, rp2, ha, h3.keep hc (fun k a f => hn3 k f a), h2.keep hc (fun k a f => hn k f a), fun k a => ?_, k3, k2, fun k a b => ?_, hn2, fun k a b => ?_, hb.trans (hc.below (fun k _ a => (k1 k a).1) hz), Nat.le_trans hz hc.size, fun k a => Nat.lt_of_lt_of_le (hK k a) hc.size⟩, hc.mono (fun k _ a => (k1 k a).2)⟩
  · rcases hfr k a with a | a
    · exact k1 k a
    · exact ⟨Nat.le_trans hz a, fun b => by have := hK k b; omega⟩
  · rcases hfr k a with a | a
    · exact hn k a b
    · have := h2.lt k b; omega
  · rcases hfr k a with a | a
    · exact hn3 k a b
    · have := h3.lt k b; omega
theorem cCrash {C : Nat} {c d' : Dk} {n : Nat} (q : dcrash d [] = (d', n)) (h : PC H K w0 w B d C c R e) : Calls Try.prog 17 #[.pointer (some ⟨B, 0, none⟩), .slice none 0 0] w fun en w' => en = .returned (.int .i64 n) ∧ PC H K w0 w' B d' C c R e ∧ Chg (fun k => ¬ K k) w w' := by
  obtain ⟨rs, rp, m, rs3, rp3, m3, rs2, rp2, h1, h3, h2, k1, k3, k2, hn, hn2, hn3, hb, hz, hK⟩ := h
  refine (kCrash none 0 [] h1 (fun j hj => by simp at hj) (by simp)).mono fun en w' ⟨he, hp⟩ => ?_
  rw [q] at he hp
  exact ⟨he, PC.step h1 h3 h2 k1 k3 k2 hn hn2 hn3 hb hz hK hp⟩
theorem cWrite {C : Nat} {c d' : Dk} (n : Int) (s : List UInt8) {x : Int} (q : dwrite d n s = (d', x)) (hm : d.pend.length < 1000000) (h : PC H K w0 w B d C c R e) : Calls Try.prog 14 #[.pointer (some ⟨B, 0, none⟩), .int .i64 n, .string (mk s)] w fun en w' => en = .returned (.int .i64 x) ∧ PC H K w0 w' B d' C c R e ∧ Chg (fun k => ¬ K k) w w' := by
  obtain ⟨rs, rp, m, rs3, rp3, m3, rs2, rp2, h1, h3, h2, k1, k3, k2, hn, hn2, hn3, hb, hz, hK⟩ := h
  refine (kWrite n s h1 hm).mono fun en w' ⟨he, hp⟩ => ?_
  rw [q] at he hp
  exact ⟨he, PC.step h1 h3 h2 k1 k3 k2 hn hn2 hn3 hb hz hK hp⟩
theorem cSync {C : Nat} {c d' : Dk} {x : Int} (q : dsync d = (d', x)) (h : PC H K w0 w B d C c R e) : Calls Try.prog 16 #[.pointer (some ⟨B, 0, none⟩)] w fun en w' => en = .returned (.int .i64 x) ∧ PC H K w0 w' B d' C c R e ∧ Chg (fun k => ¬ K k) w w' := by
  obtain ⟨rs, rp, m, rs3, rp3, m3, rs2, rp2, h1, h3, h2, k1, k3, k2, hn, hn2, hn3, hb, hz, hK⟩ := h
  refine (kSync h1).mono fun en w' ⟨he, hp⟩ => ?_
  rw [q] at he hp
  exact ⟨he, PC.step h1 h3 h2 k1 k3 k2 hn hn2 hn3 hb hz hK hp⟩
theorem PC.more {C : Nat} {c : Dk} (h : PC H K w0 w B d C c R e) (hb2 : Below w.heap.size w w') : PC H K w0 w' B d C c R e := by
  obtain ⟨rs, rp, m, rs3, rp3, m3, rs2, rp2, h1, h3, h2, k1, k3, k2, hn, hn2, hn3, hb, hz, hK⟩ := h
  have hc : Chg (fun _ => False) w w' := Chg.of_below hb2
  exact ⟨rs, rp, m, rs3, rp3, m3, rs2, rp2, h1.keep hc (fun _ _ h => h), h3.keep hc (fun _ _ h => h), h2.keep hc (fun _ _ h => h), k1, k3, k2, hn, hn2, hn3, hb.trans (hc.below (fun _ _ h => h.elim) hz), Nat.le_trans hz hc.size, fun k a => Nat.lt_of_lt_of_le (hK k a) hc.size⟩
theorem PC.done {C : Nat} {c : Dk} (h : PC H K w0 w B d C c R e) : PD H K w0 w C c R e := by
  obtain ⟨rs, rp, m, rs3, rp3, m3, rs2, rp2, h1, h3, h2, k1, k3, k2, hn, hn2, hn3, hb, hz, hK⟩ := h
  exact ⟨rs3, rp3, m3, rs2, rp2, h3, h2, k3, k2, hn2, hb, hz, hK⟩
end
end Go.Proofs.Ytnphpnbliigfbaa
