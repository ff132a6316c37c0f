/- A new pool; what a law sees of a pool. No condition. -/
import Derived.Test.YtlbeaoglkhfdcaaOAll
namespace Go.Proofs.Ytlbeaoglkhfdcaa
open Go.RowKit Go.Maps Go.WideShapes
theorem func_nil1 (fn : Fn) (a c : Array Value) (w : World) : (binOp .eql 57 (.func fn a c) .nilFunc).run Try.prog w = .ok (.bool false) w := by kernel_rfl
theorem func_nil2 (fn : Fn) (a c : Array Value) (w : World) : (binOp .eql 58 (.func fn a c) .nilFunc).run Try.prog w = .ok (.bool false) w := by kernel_rfl
theorem func_nil3 (fn : Fn) (a c : Array Value) (w : World) : (binOp .eql 59 (.func fn a c) .nilFunc).run Try.prog w = .ok (.bool false) w := by kernel_rfl
def PS.new : PS := ⟨[], fun _ => ⟨ByteArray.empty, false, 0, 0, 0, 0⟩, 0⟩
section
variable {σ : Type} {D : Dv σ} {E : Dev D} {w : World} {F G : Nat → Prop} {pb mb cap : Nat} {bk : Int → Nat} {t : σ} {s : PS}
theorem new_any (hcap : 1 ≤ cap) (hcap2 : cap ≤ 16) (hI : E.I F w t) :
    Calls Try.prog 12 #[.int .i64 cap, .func (.func E.fR) E.pR E.cR, .func (.func E.fW) E.pW E.cW, .func (.func E.fL) E.pL E.cL] w fun e w' => ∃ pb, e = .returned (.pointer (some ⟨pb, 0, none⟩)) ∧ (∃ G', PB E G' w' pb cap t PS.new ∧ Stp F w G' w') ∧ Below w.heap.size w w' := by
  have hmm := @run_makeMap Try.prog
  have hn1 := func_nil1
  have hn2 := func_nil2
  have hn3 := func_nil3
  have h1 : ¬ ((cap : Nat) : Int) < 1 := by omega
  have h2 : ¬ (16 : Int) < ((cap : Nat) : Int) := by omega
  have hb : Below w.heap.size w ((w.alloc (.map #[] 0)).alloc (.cells #[.int .i64 cap, .func (.func E.fR) E.pR E.cR, .func (.func E.fW) E.pW E.cW, .func (.func E.fL) E.pL E.cL, .map (some w.heap.size), .int .i64 0] 62)) :=
    ((Below.refl _ _).alloc (Nat.le_refl _) _).alloc (by simp) _
  have hA : PAt E ((w.alloc (.map #[] 0)).alloc (.cells #[.int .i64 cap, .func (.func E.fR) E.pR E.cR, .func (.func E.fW) E.pW E.cW, .func (.func E.fL) E.pL E.cL, .map (some w.heap.size), .int .i64 0] 62)) F (w.heap.size + 1) w.heap.size (fun _ => 0) cap PS.new := by
    refine ⟨⟨List.Pairwise.nil, fun x hx => (by cases hx), by simp [PS.new], by simp [PS.new]⟩, by omega, ?_, ?_, fun x hx => (by cases hx), fun x hx => (by cases hx), fun e => by have := E.lt hI _ e; omega, fun e => by have := E.lt hI _ e; omega, fun x hx => (by cases hx)⟩
    · have := heap_alloc_new (w.alloc (.map #[] 0)) (.cells #[.int .i64 cap, .func (.func E.fR) E.pR E.cR, .func (.func E.fW) E.pW E.cW, .func (.func E.fL) E.pL E.cL, .map (some w.heap.size), .int .i64 0] 62)
      rw [show (w.alloc (.map #[] 0)).heap.size = w.heap.size + 1 by simp] at this
      exact this
    · exact (PMap.made w _).kept (Chg.of_below (S := fun _ => False) ((Below.refl _ _).alloc (Nat.le_refl _) _)) id
  have hI2 := E.kept hI (Chg.of_below (S := fun _ => False) hb) (fun _ _ => id)
  have hP := PB.of hA hI2
  have hS : Stp F w (PG F (w.heap.size + 1) w.heap.size (fun _ => 0) PS.new) ((w.alloc (.map #[] 0)).alloc (.cells #[.int .i64 cap, .func (.func E.fR) E.pR E.cR, .func (.func E.fW) E.pW E.cW, .func (.func E.fL) E.pL E.cL, .map (some w.heap.size), .int .i64 0] 62)) := ⟨Chg.of_below hb, fun k e => by
    rcases e with e | e | ⟨x, hx, _⟩ | e
    · exact .inr (by omega)
    · exact .inr (by omega)
    · cases hx
    · exact .inl e⟩
  replace hb := Lib.hid hb
  replace hA := Lib.hid hA
  replace hI := Lib.hid hI
  replace hI2 := Lib.hid hI2
  replace hP := Lib.hid hP
  replace hS := Lib.hid hS
  go_enter Try.func12, Try.ntmps12
  go_wp2
  go_ret
  exact ⟨w.heap.size + 1, rfl, ⟨_, hP.out, hS.out⟩, hb.out⟩
/-- How many pages: no more than frames. -/
theorem proom_room (hR : Rise s.ks) (hl : s.ks.length ≤ cap) (hc : 1 ≤ cap) (h0 : (proom D cap t s).2.2 = 0) : (proom D cap t s).2.1.ks.length < cap := by
  unfold proom at h0 ⊢
  by_cases h : s.ks.length < cap
  · rw [if_pos h]; exact h
  · rw [if_neg h] at h0 ⊢
    by_cases h1 : (pflush D t s s.vic).2.2 ≠ 0
    · rw [if_pos h1] at h0; exact absurd h0 h1
    · rw [if_neg h1]
      have hk := (pflush_ks D t s s.vic).1
      have hne : s.ks ≠ [] := fun e => h (by rw [e]; simp; omega)
      have := len_del hR.nodup (s.vic_mem hne)
      simp only [PS.del, hk]
      omega
theorem proom_len (hl : s.ks.length ≤ cap) : (proom D cap t s).2.1.ks.length ≤ cap := Nat.le_trans (proom_ks D cap t s).2.2 hl
theorem pget_len (n : Int) (hR : Rise s.ks) (hl : s.ks.length ≤ cap) (hc : 1 ≤ cap) : (pget D cap t s n).2.1.ks.length ≤ cap := by
  unfold pget
  split
  · exact hl
  · rename_i hk
    split
    · exact hl
    · split
      · exact proom_len hl
      · rename_i h2
        have h3 := proom_room (D := D) (t := (D.rd t n).1) hR hl hc (by simpa using h2)
        have hkm : n ∉ (proom D cap (D.rd t n).1 s).2.1.ks := fun e => hk ((proom_ks D cap (D.rd t n).1 s).1 n e)
        show (insK n _).length ≤ cap
        rw [len_insK hkm]
        omega
theorem pset_len (n : Int) (b : ByteArray) (lsn : Int) (hR : Rise s.ks) (hl : s.ks.length ≤ cap) (hc : 1 ≤ cap) : (pset D cap t s n b lsn).2.1.ks.length ≤ cap := by
  unfold pset
  split
  · exact hl
  · rename_i hk
    split
    · exact proom_len hl
    · rename_i h2
      have h3 := proom_room (D := D) (t := t) hR hl hc (by simpa using h2)
      have hkm : n ∉ (proom D cap t s).2.1.ks := fun e => hk ((proom_ks D cap t s).1 n e)
      show (insK n _).length ≤ cap
      rw [len_insK hkm]
      omega
theorem proom_left (t : σ) (s : PS) : E.left t ≤ E.left (proom D cap t s).1 + 2 := by
  unfold proom
  split
  · simp only; omega
  · split
    · exact pflush_left t s s.vic
    · exact pflush_left t s s.vic
theorem pget_left (t : σ) (s : PS) (n : Int) : E.left t ≤ E.left (pget D cap t s n).1 + 3 := by
  unfold pget
  have h1 := E.leftR t n
  have h2 := proom_left (E := E) (cap := cap) (D.rd t n).1 s
  split
  · simp only; omega
  · split
    · simp only; omega
    · split <;> (simp only; omega)
theorem pset_left (t : σ) (s : PS) (n : Int) (b : ByteArray) (lsn : Int) : E.left t ≤ E.left (pset D cap t s n b lsn).1 + 2 := by
  unfold pset
  have h2 := proom_left (E := E) (cap := cap) t s
  split
  · simp only; omega
  · split
    · exact h2
    · exact h2
theorem pget_ck (t : σ) (s : PS) (n : Int) : (pget D cap t s n).2.1.ck ≤ s.ck + 1 := by
  unfold pget
  have h1 := (proom_ks D cap (D.rd t n).1 s).2.1
  split
  · simp [PS.acc]
  · split
    · simp only; omega
    · split
      · simp only; omega
      · simp only [PS.acc, PS.add, PS.upd]; omega
theorem pset_ck (t : σ) (s : PS) (n : Int) (b : ByteArray) (lsn : Int) : (pset D cap t s n b lsn).2.1.ck ≤ s.ck + 1 := by
  unfold pset
  have h1 := (proom_ks D cap t s).2.1
  split
  · simp [PS.set, PS.acc, PS.upd]
  · split
    · omega
    · simp only [PS.set, PS.acc, PS.add, PS.upd]; omega
/-! ### what a law sees -/
theorem PB.ok (h : PB E G w pb cap t s) : s.Ok := by obtain ⟨F, mb, bk, h1, _⟩ := h; exact h1.ok
theorem PB.lt (h : PB E G w pb cap t s) : ∀ k, G k → k < w.heap.size := by obtain ⟨F, mb, bk, _, _, _, h4⟩ := h; exact h4
theorem g_get (n : Int) {q : σ × PS × ByteArray × Int} (hq : pget D cap t s n = q) (h : PB E G w pb cap t s) (hn : (Lit.int .i64 n).wf = true) (hck : s.ck < 1000000) (hfew : s.ks.length < 1000000) (hcap : 1 ≤ cap) (hl : 3 ≤ E.left t) :
    Calls Try.prog 13 #[.pointer (some ⟨pb, 0, none⟩), .int .i64 n] w fun e w' => e = .returned (.tuple #[.string q.2.2.1, .int .i64 q.2.2.2]) ∧ ∃ G', PB E G' w' pb cap q.1 q.2.1 ∧ Stp G w G' w' := by
  obtain ⟨F, mb, bk, hA, hI, hG, _⟩ := h
  by_cases hk : n ∈ s.ks
  · refine (get_hit n hn hk hck hA hI).mono ?_
    rintro e w' ⟨rfl, hA', hI', hS⟩
    have e : q = (t, s.acc n, (s.fr n).b, 0) := by rw [← hq]; unfold pget; rw [if_pos hk]
    rw [e]
    exact ⟨rfl, PB.step hG hA' hI' hS⟩
  · refine (get_miss n hn hk hck hfew hcap hl hA hI).mono ?_
    rw [hq]
    rintro e w' ⟨rfl, F', bk', hA', hI', hS⟩
    exact ⟨rfl, PB.step hG hA' hI' hS⟩
theorem g_set (n : Int) (b : ByteArray) (lsn : Int) {q : σ × PS × Int} (hq : pset D cap t s n b lsn = q) (h : PB E G w pb cap t s) (hn : (Lit.int .i64 n).wf = true) (hck : s.ck < 1000000) (hfew : s.ks.length < 1000000) (hcap : 1 ≤ cap) (hl : 2 ≤ E.left t) :
    Calls Try.prog 21 #[.pointer (some ⟨pb, 0, none⟩), .int .i64 n, .string b, .int .i64 lsn] w fun e w' => e = .returned (.int .i64 q.2.2) ∧ ∃ G', PB E G' w' pb cap q.1 q.2.1 ∧ Stp G w G' w' := by
  obtain ⟨F, mb, bk, hA, hI, hG, _⟩ := h
  by_cases hk : n ∈ s.ks
  · refine (set_hit n b lsn hn hk hck hA hI).mono ?_
    rintro e w' ⟨rfl, hA', hI', hS⟩
    have e : q = (t, s.set n b lsn, 0) := by rw [← hq]; unfold pset; rw [if_pos hk]
    rw [e]
    exact ⟨rfl, PB.step hG hA' hI' hS⟩
  · refine (set_miss n b lsn hn hk hck hfew hcap hl hA hI).mono ?_
    rw [hq]
    rintro e w' ⟨rfl, F', bk', hA', hI', hS⟩
    exact ⟨rfl, PB.step hG hA' hI' hS⟩
theorem g_flush (n : Int) {q : σ × PS × Int} (hq : pflush D t s n = q) (h : PB E G w pb cap t s) (hn : (Lit.int .i64 n).wf = true) (hl : 2 ≤ E.left t) :
    Calls Try.prog 18 #[.pointer (some ⟨pb, 0, none⟩), .int .i64 n] w fun e w' => e = .returned (.int .i64 q.2.2) ∧ ∃ G', PB E G' w' pb cap q.1 q.2.1 ∧ Stp G w G' w' := by
  rw [← hq]
  exact flush_any n hn h hl
theorem g_all {q : σ × PS × Int} (hq : pall D t s = q) (h : PB E G w pb cap t s) (hl : 2 * s.ks.length ≤ E.left t) :
    Calls Try.prog 25 #[.pointer (some ⟨pb, 0, none⟩)] w fun e w' => e = .returned (.int .i64 q.2.2) ∧ ∃ G', PB E G' w' pb cap q.1 q.2.1 ∧ Stp G w G' w' := by
  rw [← hq]
  obtain ⟨F, mb, bk, hA, hI, hG, _⟩ := h
  refine (all_raw hA hI hl).mono ?_
  rintro e w' ⟨rfl, F', hA', hI', hS⟩
  exact ⟨rfl, PB.step hG hA' hI' hS⟩
theorem g_clean (n : Int) {x : Bool} (hx : pclean s n = x) (h : PB E G w pb cap t s) (hn : (Lit.int .i64 n).wf = true) :
    Calls Try.prog 19 #[.pointer (some ⟨pb, 0, none⟩), .int .i64 n] w fun e w' => e = .returned (.bool x) ∧ w = w' := by
  rw [← hx]
  obtain ⟨F, mb, bk, hA, hI, hG, _⟩ := h
  exact clean_raw n hn hA
theorem g_has (h : PB E G w pb cap t s) :
    Calls Try.prog 14 #[.pointer (some ⟨pb, 0, none⟩)] w fun e w' => ∃ v, e = .returned v ∧ w'.ownsRow w.heap.size 3 1 v s.ks.length (icells s.ks) ∧ PB E G w' pb cap t s ∧ Below w.heap.size w w' := by
  have h' := h
  obtain ⟨F, mb, bk, hA, hI, hG, _⟩ := h
  refine (has_raw hA).mono ?_
  rintro e w' ⟨v, rfl, ho, hb⟩
  exact ⟨v, rfl, ho, h'.kept (S := fun _ => False) (Chg.of_below hb) (fun _ _ => id), hb⟩
theorem g_dirty {l : List (Int × Int)} (hl : pdirty s = l) (h : PB E G w pb cap t s) :
    Calls Try.prog 20 #[.pointer (some ⟨pb, 0, none⟩)] w fun e w' => ∃ v, e = .returned v ∧ w'.ownsRow w.heap.size 38 2 v l.length (dcells l) ∧ PB E G w' pb cap t s ∧ Below w.heap.size w w' := by
  rw [← hl]
  have h' := h
  obtain ⟨F, mb, bk, hA, hI, hG, _⟩ := h
  refine (dirty_raw hA).mono ?_
  rintro e w' ⟨v, rfl, ho, hb⟩
  exact ⟨v, rfl, ho, h'.kept (S := fun _ => False) (Chg.of_below hb) (fun _ _ => id), hb⟩
end
end Go.Proofs.Ytlbeaoglkhfdcaa
