/- A page is asked for: the clock, the two last times. No condition. -/
import Derived.Test.YtlbeaoglkhfdcaaOFlush
namespace Go.Proofs.Ytlbeaoglkhfdcaa
open Go.RowKit Go.Maps Go.WideShapes
section
variable {σ : Type} {D : Dv σ} {E : Dev D} {w : World} {F G : Nat → Prop} {pb mb cap : Nat} {bk : Int → Nat} {t : σ} {s : PS}
theorem PAt.accd {n : Int} {w1 w2 : World} (hA : PAt E w F pb mb bk cap s) (hk : n ∈ s.ks) (hck : s.ck < 1000000) (h1 : Chg (fun k => k = pb) w w1) (c1 : w1.heap[pb]? = some (.cells #[.int .i64 cap, .func (.func E.fR) E.pR E.cR, .func (.func E.fW) E.pW E.cW, .func (.func E.fL) E.pL E.cL, .map (some mb), .int .i64 (s.ck + 1)] 62 (0, 0)))
    (h2 : Chg (fun k => k = bk n) w1 w2) (c2 : w2.heap[bk n]? = some (.cells (frC { s.fr n with ahead := (s.fr n).now, now := s.ck + 1 }) 65 (0, 0))) :
    PAt E w2 F pb mb bk cap (s.acc n) ∧ Chg (fun k => k = pb ∨ k = bk n) w w2 := by
  have a1 := hA.clock (c := s.ck + 1) (by have := hA.ok.ck; omega) h1 c1
  have a2 := a1.frame (n := n) (f := { s.fr n with ahead := (s.fr n).now, now := s.ck + 1 }) hk h2 c2
  exact ⟨a2, (h1.mono (fun _ _ e => .inl e)).trans h2 (fun _ _ e => .inr e)⟩
set_option maxHeartbeats 1600000 in
theorem acc_raw (n : Int) (hk : n ∈ s.ks) (hck : s.ck < 1000000) (hA : PAt E w F pb mb bk cap s) :
    Calls Try.prog 33 #[.pointer (some ⟨pb, 0, none⟩), .pointer (some ⟨bk n, 0, none⟩)] w fun e w' => e = .returned (.tuple #[]) ∧ PAt E w' F pb mb bk cap (s.acc n) ∧ Chg (fun k => k = pb ∨ k = bk n) w w' := by
  obtain ⟨_, _, _, _, _, c5, hf, hlt⟩ := hA.cells
  obtain ⟨_, _, _, _, f4, f5, ff, fl⟩ := hA.fcells hk
  have hne := hA.bk_pb hk
  have hne2 : pb ≠ bk n := fun e => hne e.symm
  have hc0 := hA.ok.ck
  have hA2 := fun w1 w2 => hA.accd (w1 := w1) (w2 := w2) hk hck
  replace hA2 := Lib.hid hA2
  have hpc := Lib.hid hA.cell
  have hfc := Lib.hid (hA.frs n hk)
  replace hA := Lib.hid hA
  go_enter Try.func33, Try.ntmps33
  go_wp2
  go_region
  go_end0
  refine ⟨rfl, ?_⟩
  have k1 : Chg (fun k => k = pb) w (w.setCell ⟨pb, 5, none⟩ (.int .i64 (s.ck + 1))) := (Chg.refl (fun k => k = pb) _).setCell (a := ⟨pb, 5, none⟩) (fun _ => rfl) _
  have k2 := k1.heap hfc.out (fun e => hne e)
  refine hA2.out _ _ k1 (by have := heap_set (i := 5) hpc.out (.int .i64 (s.ck + 1)); simpa using this) ?_ ?_
  · exact (((Chg.refl (fun k => k = bk n) _).setCell (a := ⟨bk n, 5, none⟩) (fun _ => rfl) _).setCell (a := ⟨bk n, 4, none⟩) (fun _ => rfl) _).drew
  · have := heap_set (i := 4) (heap_set (i := 5) k2 (.int .i64 (s.fr n).now)) (.int .i64 (s.ck + 1))
    rw [show ∀ w' : World, w'.drew.heap = w'.heap from fun _ => rfl]
    simpa [frC] using this
end
end Go.Proofs.Ytlbeaoglkhfdcaa
