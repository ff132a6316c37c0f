/- A pool of a law's own: its methods, what was there ahead of the call told in one word. No condition. -/
import Derived.Test.YtlbeaoglkhfdcaaODev
namespace Go.Proofs.Ytlbeaoglkhfdcaa
open Go.RowKit Go.Maps Go.WideShapes
section
variable {σ : Type} {D : Dv σ} (E : Dev D)
/-- A pool of the call's own (its blocks: B and above), beside other memory of the call's own (K). -/
def LP (K : Nat → Prop) (B : Nat) (w0 w : World) (pb cap : Nat) (t : σ) (s : PS) : Prop :=
  ∃ G, PB E G w pb cap t s ∧ (∀ k, G k → B ≤ k ∧ ¬ K k) ∧ Below B w0 w ∧ B ≤ w.heap.size ∧ ∀ k, K k → k < w.heap.size
end
section
variable {σ : Type} {D : Dv σ} {E : Dev D} {K : Nat → Prop} {B : Nat} {w0 w : World} {pb cap : Nat} {t t' : σ} {s s' : PS}
theorem LP.was (h : LP E K B w0 w pb cap t s) : Below B w0 w ∧ B ≤ w.heap.size := by obtain ⟨_, _, _, h1, h2, _⟩ := h; exact ⟨h1, h2⟩
theorem LP.ok (h : LP E K B w0 w pb cap t s) : s.Ok := by obtain ⟨_, h1, _⟩ := h; exact h1.ok
theorem LP.kept {w' : World} {S : Nat → Prop} (h : LP E K B w0 w pb cap t s) (hc : Chg S w w') (hS : ∀ k, S k → k < w.heap.size → B ≤ k ∧ K k) : LP E K B w0 w' pb cap t s := by
  obtain ⟨G, h1, h2, h3, h4, h5⟩ := h
  refine ⟨G, h1.kept hc (fun k hk e => (h2 k hk).2 (hS k e (h1.lt k hk)).2), h2, h3.trans (hc.below (fun k hk e => (hS k e hk).1) h4), Nat.le_trans h4 hc.size, fun k hk => Nat.lt_of_lt_of_le (h5 k hk) hc.size⟩
theorem LP.more {w' : World} (h : LP E K B w0 w pb cap t s) (hb : Below w.heap.size w w') : LP E K B w0 w' pb cap t s :=
  h.kept (S := fun _ => False) (Chg.of_below hb) (fun _ h => h.elim)
theorem LP.drew (h : LP E K B w0 w pb cap t s) : LP E K B w0 w.drew pb cap t s :=
  h.kept (S := fun _ => False) (Chg.refl _ w).drew (fun _ h => h.elim)
theorem LP.step {w' : World} {G G' : Nat → Prop} (h1 : PB E G w pb cap t s) (h2 : ∀ k, G k → B ≤ k ∧ ¬ K k) (h3 : Below B w0 w) (h4 : B ≤ w.heap.size) (h5 : ∀ k, K k → k < w.heap.size) (hP : PB E G' w' pb cap t' s') (hS : Stp G w G' w') :
    LP E K B w0 w' pb cap t' s' ∧ Chg (fun k => ¬ K k) w w' :=
  ⟨⟨G', hP, fun k hk => (hS.2 k hk).elim (h2 k) (fun e => ⟨Nat.le_trans h4 e, fun hK => by have := h5 k hK; omega⟩), h3.trans (hS.1.below (fun k _ e => (h2 k e).1) h4), Nat.le_trans h4 hS.1.size, fun k hk => Nat.lt_of_lt_of_le (h5 k hk) hS.1.size⟩, hS.1.mono (fun k _ e => (h2 k e).2)⟩
theorem lNew {F : Nat → Prop} (hcap : 1 ≤ cap) (hcap2 : cap ≤ 16) (hI : E.I F w t) (hF : ∀ k, F k → B ≤ k ∧ ¬ K k) (hb : Below B w0 w) (hB : B ≤ w.heap.size) (hK : ∀ k, K k → k < w.heap.size) :
    Calls Try.prog 12 #[.int .i64 cap, .func (.func E.fR) E.pR E.cR, .func (.func E.fW) E.pW E.cW, .func (.func E.fL) E.pL E.cL] w fun e w' => ∃ pb, e = .returned (.pointer (some ⟨pb, 0, none⟩)) ∧ LP E K B w0 w' pb cap t PS.new ∧ Below w.heap.size w w' := by
  refine (new_any hcap hcap2 hI).mono ?_
  rintro e w' ⟨pb, rfl, ⟨G', hP, hS⟩, hb2⟩
  exact ⟨pb, rfl, ⟨G', hP, fun k hk => (hS.2 k hk).elim (hF k) (fun e => ⟨Nat.le_trans hB e, fun h => by have := hK k h; omega⟩), hb.trans (hb2.mono hB), Nat.le_trans hB hb2.size, fun k hk => Nat.lt_of_lt_of_le (hK k hk) hb2.size⟩, hb2⟩
theorem lGet (n : Int) {b : ByteArray} {er : Int} (hq : pget D cap t s n = (t', s', b, er)) (h : LP E K B w0 w pb cap t s) (hn : (Lit.int .i64 n).wf = true) (hck : s.ck < 1000000) (hfew : s.ks.length < 1000000) (hcap : 1 ≤ cap) (hl : 3 ≤ E.left t) :
    Calls Try.prog 13 #[.pointer (some ⟨pb, 0, none⟩), .int .i64 n] w fun e w' => e = .returned (.tuple #[.string b, .int .i64 er]) ∧ LP E K B w0 w' pb cap t' s' ∧ Chg (fun k => ¬ K k) w w' := by
  obtain ⟨G, h1, h2, h3, h4, h5⟩ := h
  refine (g_get n hq h1 hn hck hfew hcap hl).mono ?_
  rintro e w' ⟨rfl, G', hP, hS⟩
  exact ⟨rfl, LP.step h1 h2 h3 h4 h5 hP hS⟩
theorem lSet (n : Int) (b : ByteArray) (lsn : Int) {er : Int} (hq : pset D cap t s n b lsn = (t', s', er)) (h : LP E K B w0 w pb cap t s) (hn : (Lit.int .i64 n).wf = true) (hck : s.ck < 1000000) (hfew : s.ks.length < 1000000) (hcap : 1 ≤ cap) (hl : 2 ≤ E.left t) :
    Calls Try.prog 21 #[.pointer (some ⟨pb, 0, none⟩), .int .i64 n, .string b, .int .i64 lsn] w fun e w' => e = .returned (.int .i64 er) ∧ LP E K B w0 w' pb cap t' s' ∧ Chg (fun k => ¬ K k) w w' := by
  obtain ⟨G, h1, h2, h3, h4, h5⟩ := h
  refine (g_set n b lsn hq h1 hn hck hfew hcap hl).mono ?_
  rintro e w' ⟨rfl, G', hP, hS⟩
  exact ⟨rfl, LP.step h1 h2 h3 h4 h5 hP hS⟩
theorem lFlush (n : Int) {er : Int} (hq : pflush D t s n = (t', s', er)) (h : LP E K B w0 w pb cap t s) (hn : (Lit.int .i64 n).wf = true) (hl : 2 ≤ E.left t) :
    Calls Try.prog 18 #[.pointer (some ⟨pb, 0, none⟩), .int .i64 n] w fun e w' => e = .returned (.int .i64 er) ∧ LP E K B w0 w' pb cap t' s' ∧ Chg (fun k => ¬ K k) w w' := by
  obtain ⟨G, h1, h2, h3, h4, h5⟩ := h
  refine (g_flush n hq h1 hn hl).mono ?_
  rintro e w' ⟨rfl, G', hP, hS⟩
  exact ⟨rfl, LP.step h1 h2 h3 h4 h5 hP hS⟩
theorem lAll {er : Int} (hq : pall D t s = (t', s', er)) (h : LP E K B w0 w pb cap t s) (hl : 2 * s.ks.length ≤ E.left t) :
    Calls Try.prog 25 #[.pointer (some ⟨pb, 0, none⟩)] w fun e w' => e = .returned (.int .i64 er) ∧ LP E K B w0 w' pb cap t' s' ∧ Chg (fun k => ¬ K k) w w' := by
  obtain ⟨G, h1, h2, h3, h4, h5⟩ := h
  refine (g_all hq h1 hl).mono ?_
  rintro e w' ⟨rfl, G', hP, hS⟩
  exact ⟨rfl, LP.step h1 h2 h3 h4 h5 hP hS⟩
theorem lClean (n : Int) {x : Bool} (hx : pclean s n = x) (h : LP E K B w0 w pb cap t s) (hn : (Lit.int .i64 n).wf = true) :
    Calls Try.prog 19 #[.pointer (some ⟨pb, 0, none⟩), .int .i64 n] w fun e w' => e = .returned (.bool x) ∧ w = w' := by
  obtain ⟨G, h1, _⟩ := h
  exact g_clean n hx h1 hn
theorem lHas (h : LP E K B w0 w pb cap t s) :
    Calls Try.prog 14 #[.pointer (some ⟨pb, 0, none⟩)] w fun e w' => ∃ a c, e = .returned (.slice a s.ks.length c) ∧ IAt w' a s.ks ∧ LP E K B w0 w' pb cap t s ∧ Below w.heap.size w w' := by
  have h' := h
  obtain ⟨G, h1, _⟩ := h
  refine (g_has h1).mono ?_
  rintro e w' ⟨v, rfl, ho, _, hb⟩
  obtain ⟨a, c, rfl, hI⟩ := IAt.own ho
  exact ⟨a, c, rfl, hI, h'.more hb, hb⟩
/-- Pages, and when they were changed first, told. -/
def DtAt (w : World) (a : Option Addr) (l : List (Int × Int)) : Prop := ∀ j (h : j < l.length), ∃ b o, a = some ⟨b, o, none⟩ ∧ w.cell? ⟨b, o + j * 2, none⟩ = some (.int .i64 (l[j]).1) ∧ w.cell? ⟨b, o + j * 2 + 1, none⟩ = some (.int .i64 (l[j]).2)
theorem lDirty {l : List (Int × Int)} (hl : pdirty s = l) (h : LP E K B w0 w pb cap t s) :
    Calls Try.prog 20 #[.pointer (some ⟨pb, 0, none⟩)] w fun e w' => ∃ a c, e = .returned (.slice a l.length c) ∧ DtAt w' a l ∧ LP E K B w0 w' pb cap t s ∧ Below w.heap.size w w' := by
  have h' := h
  obtain ⟨G, h1, _⟩ := h
  refine (g_dirty hl h1).mono ?_
  rintro e w' ⟨v, rfl, ho, _, hb⟩
  rcases ho.2 with ⟨rfl, h0⟩ | ⟨g, cap2, cur, rfl, _⟩
  · exact ⟨none, 0, by rw [h0], fun j hj => by omega, h'.more hb, hb⟩
  · refine ⟨_, _, rfl, fun j hj => ⟨g, 0, rfl, ?_, ?_⟩, h'.more hb, hb⟩
    · rw [Nat.zero_add, ho.cellAt (j := j * 2) (by omega), Nat.mul_comm]
      exact (dcells_at l j hj).1
    · rw [Nat.zero_add, ho.cellAt (j := j * 2 + 1) (by omega), Nat.mul_comm]
      exact (dcells_at l j hj).2
end
/-- What a rec has written down, told. -/
def StAt (w : World) (a : Option Addr) (l : St) : Prop := ∀ j (h : j < l.length), ∃ b o, a = some ⟨b, o, none⟩ ∧ w.cell? ⟨b, o + j * 3, none⟩ = some (.int .u8 (l[j]).1.toNat) ∧ w.cell? ⟨b, o + j * 3 + 1, none⟩ = some (.int .i64 (l[j]).2.1) ∧ w.cell? ⟨b, o + j * 3 + 2, none⟩ = some (.string (l[j]).2.2)
theorem LP.steps {pages : List ByteArray} {hp : pages.length ≤ 1000000} {rb gb go gc : Nat} {K : Nat → Prop} {B : Nat} {w0 w : World} {pb cap : Nat} {t : St} {s : PS} (h : LP (devRec pages hp rb gb go gc) K B w0 w pb cap t s) :
    ∃ a c, w.cell? ⟨rb, 0, none⟩ = some (.slice a t.length c) ∧ StAt w a t ∧ rb < w.heap.size := by
  obtain ⟨G, ⟨F, mb, bk, _, hI, _⟩, _⟩ := h
  obtain ⟨vs, h1, h2, h3⟩ := RAt.row hI
  obtain ⟨ao, l, c, e1, e2⟩ := own_form h2
  refine ⟨ao, c, by rw [cell_of h1 rfl, e1, e2]; rfl, fun j hj => ?_, lt_of h1⟩
  rcases h2.2 with ⟨e3, h0⟩ | ⟨g, cap2, cur, e3, _⟩
  · omega
  · have e4 : ao = some ⟨g, 0, none⟩ := by rw [e1] at e3; cases e3; rfl
    subst e4
    have e5 := e3
    refine ⟨g, 0, rfl, ?_, ?_, ?_⟩
    · have := World.ownsRow.cellAt (j := j * 3) (by rw [e3] at h2; exact h2) (by omega)
      rw [Nat.zero_add, this, Nat.mul_comm]
      exact (stcells_at t j hj).1
    · have := World.ownsRow.cellAt (j := j * 3 + 1) (by rw [e3] at h2; exact h2) (by omega)
      rw [Nat.zero_add, this, Nat.mul_comm]
      exact (stcells_at t j hj).2.1
    · have := World.ownsRow.cellAt (j := j * 3 + 2) (by rw [e3] at h2; exact h2) (by omega)
      rw [Nat.zero_add, this, Nat.mul_comm]
      exact (stcells_at t j hj).2.2
end Go.Proofs.Ytlbeaoglkhfdcaa
