/- A pool in memory beside a disk and a log that are handed in as functions; what its steps leave. No condition. -/
import Derived.Test.YtlbeaoglkhfdcaaOMem
namespace Go.Proofs.Ytlbeaoglkhfdcaa
open Go.RowKit Go.Maps Go.WideShapes

/-- Nothing has turned but what is owned; what is owned then was owned, or is new. -/
def Stp (F : Nat → Prop) (w : World) (F' : Nat → Prop) (w' : World) : Prop := Chg F w w' ∧ ∀ k, F' k → F k ∨ w.heap.size ≤ k
theorem Stp.refl (F : Nat → Prop) (w : World) : Stp F w F w := ⟨Chg.refl _ _, fun _ h => .inl h⟩
theorem Stp.trans {F F1 F2 : Nat → Prop} {w w1 w2 : World} (h : Stp F w F1 w1) (k : Stp F1 w1 F2 w2) : Stp F w F2 w2 :=
  ⟨h.1.trans k.1 fun j hj e => (h.2 j e).elim id (fun e2 => absurd hj (by omega)), fun j e => (k.2 j e).elim (h.2 j) (fun e2 => .inr (Nat.le_trans h.1.size e2))⟩

/-- A disk and a log, as functions that are handed in. -/
structure Dev {σ : Type} (D : Dv σ) where
  I : (Nat → Prop) → World → σ → Prop
  kept : ∀ {F S : Nat → Prop} {w w' : World} {t : σ}, I F w t → Chg S w w' → (∀ k, F k → ¬ S k) → I F w' t
  lt : ∀ {F : Nat → Prop} {w : World} {t : σ}, I F w t → ∀ k, F k → k < w.heap.size
  left : σ → Nat
  leftR : ∀ t n, left t ≤ left (D.rd t n).1 + 1
  leftW : ∀ t n b, left t ≤ left (D.wr t n b).1 + 1
  leftL : ∀ t n, left t ≤ left (D.lg t n).1 + 1
  fR : Nat
  fW : Nat
  fL : Nat
  pR : Array Value
  cR : Array Value
  pW : Array Value
  cW : Array Value
  pL : Array Value
  cL : Array Value
  entR : ∀ args w, (callFunc fR args).run Try.prog w = .ok (.enter fR args) w
  entW : ∀ args w, (callFunc fW args).run Try.prog w = .ok (.enter fW args) w
  entL : ∀ args w, (callFunc fL args).run Try.prog w = .ok (.enter fL args) w
  callR : ∀ {F : Nat → Prop} {w : World} {t : σ} (n : Int), I F w t → (Lit.int .i64 n).wf = true → 0 < left t → Calls Try.prog fR (pR.push (.int .i64 n) ++ cR) w fun e w' => e = .returned (.tuple #[.string (D.rd t n).2.1, .int .i64 (D.rd t n).2.2]) ∧ ∃ F', I F' w' (D.rd t n).1 ∧ Stp F w F' w'
  callW : ∀ {F : Nat → Prop} {w : World} {t : σ} (n : Int) (b : ByteArray), I F w t → (Lit.int .i64 n).wf = true → 0 < left t → Calls Try.prog fW (pW ++ (#[.int .i64 n, .string b] ++ cW)) w fun e w' => e = .returned (.int .i64 (D.wr t n b).2) ∧ ∃ F', I F' w' (D.wr t n b).1 ∧ Stp F w F' w'
  callL : ∀ {F : Nat → Prop} {w : World} {t : σ} (n : Int), I F w t → 0 < left t → Calls Try.prog fL (pL.push (.int .i64 n) ++ cL) w fun e w' => e = .returned (.int .i64 (D.lg t n).2) ∧ ∃ F', I F' w' (D.lg t n).1 ∧ Stp F w F' w'

def frC (f : Fr) : Array Value := #[.string f.b, .bool f.d, .int .i64 f.since, .int .i64 f.last, .int .i64 f.now, .int .i64 f.ahead]
section
variable {σ : Type} {D : Dv σ} (E : Dev D)
/-- A pool, in blocks of G, beside its disk and log. -/
structure PAt (w : World) (F : Nat → Prop) (pb mb : Nat) (bk : Int → Nat) (cap : Nat) (s : PS) : Prop where
  ok : s.Ok
  few : cap ≤ 1000000
  cell : w.heap[pb]? = some (.cells #[.int .i64 cap, .func (.func E.fR) E.pR E.cR, .func (.func E.fW) E.pW E.cW, .func (.func E.fL) E.pL E.cL, .map (some mb), .int .i64 s.ck] 62 (0, 0))
  map : PMap w mb s.ks bk
  frs : ∀ x ∈ s.ks, w.heap[bk x]? = some (.cells (frC (s.fr x)) 65 (0, 0))
  inj : ∀ x ∈ s.ks, ∀ y ∈ s.ks, bk x = bk y → x = y
  apart : ¬ F pb ∧ ¬ F mb ∧ ∀ x ∈ s.ks, ¬ F (bk x)
def PG (F : Nat → Prop) (pb mb : Nat) (bk : Int → Nat) (s : PS) (k : Nat) : Prop := k = pb ∨ k = mb ∨ (∃ x ∈ s.ks, k = bk x) ∨ F k
def PB (G : Nat → Prop) (w : World) (pb cap : Nat) (t : σ) (s : PS) : Prop :=
  ∃ F mb bk, PAt E w F pb mb bk cap s ∧ E.I F w t ∧ (∀ k, PG F pb mb bk s k → G k) ∧ ∀ k, G k → k < w.heap.size
end
section
variable {σ : Type} {D : Dv σ} {E : Dev D} {w w' : World} {F G : Nat → Prop} {pb mb cap : Nat} {bk : Int → Nat} {t : σ} {s : PS}
theorem PAt.kept {S : Nat → Prop} (h : PAt E w F pb mb bk cap s) (hc : Chg S w w') (h1 : ¬ S pb) (h2 : ¬ S mb) (h3 : ∀ x ∈ s.ks, ¬ S (bk x)) : PAt E w' F pb mb bk cap s :=
  ⟨h.ok, h.few, hc.heap h.cell h1, h.map.kept hc h2, fun x hx => hc.heap (h.frs x hx) (h3 x hx), h.inj, h.apart⟩
theorem PAt.pb_mb (h : PAt E w F pb mb bk cap s) : pb ≠ mb := fun e => by
  obtain ⟨es, c, h1⟩ := h.map.block
  have := h.cell
  rw [e, h1] at this
  simp at this
theorem PAt.bk_mb (h : PAt E w F pb mb bk cap s) {x : Int} (hx : x ∈ s.ks) : bk x ≠ mb := fun e => by
  obtain ⟨es, c, h1⟩ := h.map.block
  have := h.frs x hx
  rw [e, h1] at this
  simp at this
theorem PAt.bk_pb (h : PAt E w F pb mb bk cap s) {x : Int} (hx : x ∈ s.ks) : bk x ≠ pb := fun e => by
  have := h.frs x hx
  rw [e, h.cell] at this
  simp [frC] at this
theorem PAt.lt (h : PAt E w F pb mb bk cap s) : pb < w.heap.size ∧ mb < w.heap.size ∧ ∀ x ∈ s.ks, bk x < w.heap.size := ⟨lt_of h.cell, h.map.lt, fun x hx => lt_of (h.frs x hx)⟩
/-- Memory that was not owned turns. -/
theorem PB.kept {S : Nat → Prop} (h : PB E G w pb cap t s) (hc : Chg S w w') (hS : ∀ k, G k → ¬ S k) : PB E G w' pb cap t s := by
  obtain ⟨F, mb, bk, h1, h2, h3, h4⟩ := h
  exact ⟨F, mb, bk, h1.kept hc (hS _ (h3 _ (.inl rfl))) (hS _ (h3 _ (.inr (.inl rfl)))) (fun x hx => hS _ (h3 _ (.inr (.inr (.inl ⟨x, hx, rfl⟩))))), E.kept h2 hc (fun k hk => hS k (h3 k (.inr (.inr (.inr hk))))), h3, fun k hk => Nat.lt_of_lt_of_le (h4 k hk) hc.size⟩
/-- A pool with exactly what is owned. -/
theorem PB.of (h : PAt E w F pb mb bk cap s) (hI : E.I F w t) : PB E (PG F pb mb bk s) w pb cap t s :=
  ⟨F, mb, bk, h, hI, fun _ h => h, fun k hk => by
    obtain ⟨l1, l2, l3⟩ := h.lt
    rcases hk with rfl | rfl | ⟨x, hx, rfl⟩ | hk
    · exact l1
    · exact l2
    · exact l3 x hx
    · exact E.lt hI k hk⟩
/-- Behind a step of the pool's: what is owned. -/
theorem PB.step {F' : Nat → Prop} {bk' : Int → Nat} {t' : σ} {s' : PS} (hG : ∀ k, PG F pb mb bk s k → G k) (h : PAt E w' F' pb mb bk' cap s') (hI : E.I F' w' t') (hs : Stp (PG F pb mb bk s) w (PG F' pb mb bk' s') w') :
    ∃ G', PB E G' w' pb cap t' s' ∧ Stp G w G' w' :=
  ⟨_, PB.of h hI, hs.1.mono (fun k _ e => hG k e), fun k e => (hs.2 k e).elim (fun e2 => .inl (hG k e2)) .inr⟩
/-- The disk, or the log, has done something. -/
theorem PAt.dev {F' : Nat → Prop} (h : PAt E w F pb mb bk cap s) (hs : Stp F w F' w') : PAt E w' F' pb mb bk cap s := by
  obtain ⟨l1, l2, l3⟩ := h.lt
  obtain ⟨a1, a2, a3⟩ := h.apart
  have h1 := h.kept hs.1 a1 a2 a3
  exact ⟨h1.ok, h1.few, h1.cell, h1.map, h1.frs, h1.inj, fun e => (hs.2 _ e).elim a1 (by omega), fun e => (hs.2 _ e).elim a2 (by omega), fun x hx e => (hs.2 _ e).elim (a3 x hx) (by have := l3 x hx; omega)⟩
theorem stp_dev {F' : Nat → Prop} (hs : Stp F w F' w') : Stp (PG F pb mb bk s) w (PG F' pb mb bk s) w' :=
  ⟨hs.1.mono (fun k _ e => .inr (.inr (.inr e))), fun k e => by
    rcases e with e | e | e | e
    · exact .inl (.inl e)
    · exact .inl (.inr (.inl e))
    · exact .inl (.inr (.inr (.inl e)))
    · exact (hs.2 k e).elim (fun e => .inl (.inr (.inr (.inr e)))) .inr⟩
/-- A frame's block is written. -/
theorem PAt.frame {n : Int} {f : Fr} (h : PAt E w F pb mb bk cap s) (hn : n ∈ s.ks) (hc : Chg (fun k => k = bk n) w w') (hf : w'.heap[bk n]? = some (.cells (frC f) 65 (0, 0))) : PAt E w' F pb mb bk cap (s.upd n f) := by
  refine ⟨h.ok.upd n f, h.few, hc.heap h.cell (fun e => h.bk_pb hn e.symm), h.map.kept hc (fun e => h.bk_mb hn e.symm), fun x hx => ?_, h.inj, h.apart⟩
  by_cases e : x = n
  · subst e
    rw [hf]
    simp [PS.upd]
  · rw [hc.heap (h.frs x hx) (fun e2 => e (h.inj x hx n hn e2))]
    simp [PS.upd, e]
/-- The clock is written. -/
theorem PAt.clock {c : Int} (h : PAt E w F pb mb bk cap s) (hc0 : 0 ≤ c ∧ c ≤ 1000000) (hc : Chg (fun k => k = pb) w w') (hf : w'.heap[pb]? = some (.cells #[.int .i64 cap, .func (.func E.fR) E.pR E.cR, .func (.func E.fW) E.pW E.cW, .func (.func E.fL) E.pL E.cL, .map (some mb), .int .i64 c] 62 (0, 0))) : PAt E w' F pb mb bk cap { s with ck := c } :=
  ⟨⟨h.ok.rise, h.ok.wf, h.ok.few, hc0⟩, h.few, hf, h.map.kept hc (fun e => h.pb_mb e.symm), fun x hx => hc.heap (h.frs x hx) (h.bk_pb hx), h.inj, h.apart⟩
/-- The cells that a method reads. -/
theorem PAt.cells (h : PAt E w F pb mb bk cap s) : w.cell? ⟨pb, 0, none⟩ = some (.int .i64 cap) ∧ w.cell? ⟨pb, 1, none⟩ = some (.func (.func E.fR) E.pR E.cR) ∧ w.cell? ⟨pb, 2, none⟩ = some (.func (.func E.fW) E.pW E.cW) ∧ w.cell? ⟨pb, 3, none⟩ = some (.func (.func E.fL) E.pL E.cL) ∧
    w.cell? ⟨pb, 4, none⟩ = some (.map (some mb)) ∧ w.cell? ⟨pb, 5, none⟩ = some (.int .i64 s.ck) ∧ (∀ i, w.frozen? ⟨pb, i, none⟩ = false) ∧ pb < w.heap.size :=
  ⟨cell_of h.cell rfl, cell_of h.cell rfl, cell_of h.cell rfl, cell_of h.cell rfl, cell_of h.cell rfl, cell_of h.cell rfl, fun i => free_of h.cell, lt_of h.cell⟩
theorem PAt.fcells (h : PAt E w F pb mb bk cap s) {n : Int} (hn : n ∈ s.ks) : w.cell? ⟨bk n, 0, none⟩ = some (.string (s.fr n).b) ∧ w.cell? ⟨bk n, 1, none⟩ = some (.bool (s.fr n).d) ∧ w.cell? ⟨bk n, 2, none⟩ = some (.int .i64 (s.fr n).since) ∧ w.cell? ⟨bk n, 3, none⟩ = some (.int .i64 (s.fr n).last) ∧
    w.cell? ⟨bk n, 4, none⟩ = some (.int .i64 (s.fr n).now) ∧ w.cell? ⟨bk n, 5, none⟩ = some (.int .i64 (s.fr n).ahead) ∧ (∀ i, w.frozen? ⟨bk n, i, none⟩ = false) ∧ bk n < w.heap.size :=
  have h1 := h.frs n hn
  ⟨cell_of h1 rfl, cell_of h1 rfl, cell_of h1 rfl, cell_of h1 rfl, cell_of h1 rfl, cell_of h1 rfl, fun i => free_of h1, lt_of h1⟩
end
end Go.Proofs.Ytlbeaoglkhfdcaa
