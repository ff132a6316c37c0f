/- take of package frame's scan. No condition. -/
import Derived.Test.YtofejnhnnmnfpaaDoorFGet
import Derived.Test.YtofejnhnnmnfpaaDoorFBs
import Derived.Deep.QuietTactic
import Derived.BigQuiet
import Derived.Test.YtofejnhnnmnfpaaDoorFNs
import Derived.Test.YtofejnhnnmnfpaaDoorProg
namespace Go.Proofs.YtofejnhnnmnfpaaDoor.Fr
set_option maxRecDepth 100000
open Go.RowKit
attribute [local go_sem] mk_size mk_append

/-- A scan in memory. -/
def SAt (w0 w : World) (B : Nat) (s : St) : Prop :=
  ∃ v, w.heap[B]? = some (.cells #[.string (mk s.b), .bool s.open_, .int .i64 s.at_, .int .i64 s.epoch, v, .int .i64 s.end_, .int .i64 s.last] 105 (0, 0)) ∧ w.ownsRow w0.heap.size 9 1 v s.l.length (scells s.l) ∧ w0.heap.size ≤ B ∧ Below w0.heap.size w0 w
theorem SAt.more {w0 w w' : World} {B : Nat} {s : St} (h : SAt w0 w B s) (hb : Below w.heap.size w w') : SAt w0 w' B s := by
  obtain ⟨v, hB, ho, hle, hw⟩ := h
  exact ⟨v, (hb.block _ (lt_of hB)).trans hB, (Chg.of_below hb).row ho (fun _ _ => id), hle, hw.trans (hb.mono hw.size)⟩
theorem row_apart {w : World} {base B n : Nat} {v : Value} {xs : List Value} {cs : Array Value} (h : w.ownsRow base 9 1 v n xs) (hB : w.heap[B]? = some (.cells cs 105 (0, 0))) : ∀ k, v.ownBlock = some k → ¬ k = B := by
  intro k hk e
  subst e
  obtain ⟨cur, hc⟩ := own_block h hk
  rw [hB] at hc
  simp at hc
/-- In the scan's own block alone something has turned. -/
theorem SAt.put {w0 w1 A : World} {B n : Nat} {v : Value} {xs : List Value} {cs : Array Value} {s' : St} (hB : w1.heap[B]? = some (.cells cs 105 (0, 0))) (ho : w1.ownsRow w0.heap.size 9 1 v n xs) (hle : w0.heap.size ≤ B) (hw : Below w0.heap.size w0 w1)
    (hc : Chg (· = B) w1 A) (hA : A.heap[B]? = some (.cells #[.string (mk s'.b), .bool s'.open_, .int .i64 s'.at_, .int .i64 s'.epoch, v, .int .i64 s'.end_, .int .i64 s'.last] 105 (0, 0))) (hn : n = s'.l.length) (hx : xs = scells s'.l) : SAt w0 A B s' := by
  subst hn hx
  exact ⟨v, hA, hc.row ho (row_apart ho hB), hle, hw.trans (hc.below (fun k _ e => by omega) hw.size)⟩
/-- What bounds the lengths. -/
def Inv (s : St) : Prop := 3 * s.l.length + s.b.length ≤ 56 * s.at_ ∧ s.at_ ≤ 65536 ∧ s.epoch ≤ 4294967295 ∧ s.end_ ≤ 65536 ∧ s.last ≤ 4294967295
theorem drain_len (b : List UInt8) : 3 * (drain b).1.length + (drain b).2.1.length ≤ b.length := by
  refine drain_cases (P := fun b => 3 * (drain b).1.length + (drain b).2.1.length ≤ b.length) b ?_ ?_ ?_ ?_
  · intro b h; rw [drain_short h]; simp
  · intro b h h0; rw [drain_dead h h0]; simp
  · intro b h h0 hl; rw [drain_part h h0 hl]; simp
  · intro b h h0 hl ih
    rw [drain_more h h0 hl]
    simp only [List.length_cons, List.length_drop] at ih ⊢
    omega
theorem Inv.eat {s : St} {x : Sec} (h : Inv s) (hf : fits s x = true) (hx : secOk x.epoch x.index x.pay = true) : Inv (eat s x) := by
  obtain ⟨h1, h2, h3, h4, h5⟩ := h
  obtain ⟨_, g2, _, g4, _, g6⟩ := secOk_iff.1 hx
  have hi : x.index = s.at_ := by simp [fits] at hf; exact hf.1.1
  have hb : ((if x.fresh = true then [] else s.b) ++ x.pay).length ≤ s.b.length + 56 := by
    rw [List.length_append]
    split
    · simp; omega
    · omega
  unfold Go.Proofs.YtofejnhnnmnfpaaDoor.Fr.eat
  simp only
  generalize (if x.fresh = true then [] else s.b) ++ x.pay = b1 at *
  have hd := drain_len b1
  split
  · refine ⟨?_, by simp only; omega, by simp only; omega, ?_, ?_⟩
    · simp only [List.length_append]; omega
    · simp only; split <;> omega
    · simp only; split <;> omega
  · refine ⟨?_, by simp only; omega, by simp only; omega, h4, h5⟩
    simp only; omega
theorem Below.drewN {B : Nat} {w w1 : World} (h : Below B w w1) (n : Nat) : Below B w (w1.drewN n) := ⟨h.os, h.tape, h.output, h.size, h.block⟩

set_option maxHeartbeats 1600000 in
set_option maxRecDepth 100000 in
theorem take_none (w0 : World) (B : Nat) (s : St) (b : List UInt8) (w : World) (hs : SAt w0 w B s) (hi : Inv s) (hb : b.length ≤ 140737488351232) (h : take s b = none) :
    Calls Tryd.prog 55 #[.pointer (some ⟨B, 0, none⟩), .string (mk b)] w fun e w' => e = .returned (.bool false) ∧ SAt w0 w' B s := by
  cases hd : dec b with
  | none =>
    go_enter Tryd.func55, Tryd.ntmps55
    go_wp2_with fail
    refine (get_any b none _ hb hd).mono ?_
    rintro e w1 ⟨rfl, hb1⟩
    have hs1 := Lib.hid (hs.more hb1)
    unfold secV
    clear hb1 hs hd h
    go_wp2_with fail
    go_quiet (fail)
    go_wp2
    go_ret
    exact ⟨rfl, hs1.out.more (Below.drewN ((Below.refl _ _).alloc (Nat.le_refl _) _) _)⟩
  | some x =>
    have hf : fits s x = false := by
      rw [take, hd] at h
      simp only at h
      split at h
      · cases h
      · rename_i c; simpa using c
    obtain ⟨v, hB, ho, hle, hw⟩ := id hs
    obtain ⟨i1, i2, i3, i4, i5⟩ := hi
    have hx := dec_some hd
    obtain ⟨g1, g2, g3, g4, g5, g6⟩ := secOk_iff.1 hx.1
    obtain ⟨xe, xi, xf, xp⟩ := x
    simp only at g1 g2 g3 g4 g5 g6
    obtain ⟨sb, so, sa, se, sl, sn, sla⟩ := s
    simp only at i1 i2 i3 i4 i5 hB
    have hBlt := lt_of hB
    have nz : ∀ {a b : Nat}, a ≠ b → ((a : Int) != b) = true := fun h => by rw [bne_iff_ne]; omega
    have yz : ∀ {a b : Nat}, a = b → ((a : Int) != b) = false := fun h => by rw [bne_eq_false_iff_eq]; omega
    have hcase : xi ≠ sa ∨ (xi = sa ∧ xe < se) ∨ (xi = sa ∧ se < xe ∧ xf = false) := by
      simp [fits] at hf
      by_cases c1 : xi = sa
      · by_cases c2 : se ≤ xe
        · have := hf c1 c2
          exact .inr (.inr ⟨c1, by omega, by simpa using this.2⟩)
        · exact .inr (.inl ⟨c1, by omega⟩)
      · exact .inl c1
    replace hs := Lib.hid hs
    clear hf h ho
    rcases hcase with c1 | ⟨c1, c2⟩ | ⟨c1, c2, c3⟩
    · have t1 := nz c1
      clear nz yz
      go_enter Tryd.func55, Tryd.ntmps55
      go_wp2_with fail
      refine (get_any b _ _ hb hd).mono ?_
      rintro e w1 ⟨rfl, hb1⟩
      have hs1 := Lib.hid (hs.out.more hb1)
      have hB1 := (hb1.block _ hBlt).trans hB
      have hBz : B < w1.heap.size := lt_of hB1
      have c12 : w1.cell? ⟨B, 2, none⟩ = some (.int .i64 sa) := cell_of hB1 rfl
      have c13 : w1.cell? ⟨B, 3, none⟩ = some (.int .i64 se) := cell_of hB1 rfl
      unfold secV
      clear hb1 hs hd hB hBlt hx
      replace hB1 := Lib.hid hB1
      go_wp2_with fail
      go_quiet (fail)
      go_wp2
      go_ret
      exact ⟨rfl, hs1.out.more (Below.drewN ((Below.refl _ _).alloc (Nat.le_refl _) _) _)⟩
    · have t1 := yz c1
      have t2 : decide (xe < se) = true := by simpa using c2
      replace c1 := Lib.hid c1
      clear nz yz
      go_enter Tryd.func55, Tryd.ntmps55
      go_wp2_with fail
      refine (get_any b _ _ hb hd).mono ?_
      rintro e w1 ⟨rfl, hb1⟩
      have hs1 := Lib.hid (hs.out.more hb1)
      have hB1 := (hb1.block _ hBlt).trans hB
      have hBz : B < w1.heap.size := lt_of hB1
      have c12 : w1.cell? ⟨B, 2, none⟩ = some (.int .i64 sa) := cell_of hB1 rfl
      have c13 : w1.cell? ⟨B, 3, none⟩ = some (.int .i64 se) := cell_of hB1 rfl
      unfold secV
      clear hb1 hs hd hB hBlt hx
      replace hB1 := Lib.hid hB1
      go_wp2_with fail
      go_quiet (fail)
      go_wp2
      go_ret
      exact ⟨rfl, hs1.out.more (Below.drewN ((Below.refl _ _).alloc (Nat.le_refl _) _) _)⟩
    · have t1 := yz c1
      have t2 : decide (xe < se) = false := by simp; omega
      have t3 := nz (show xe ≠ se by omega)
      subst c3
      replace c1 := Lib.hid c1
      clear nz yz
      go_enter Tryd.func55, Tryd.ntmps55
      go_wp2_with fail
      refine (get_any b _ _ hb hd).mono ?_
      rintro e w1 ⟨rfl, hb1⟩
      have hs1 := Lib.hid (hs.out.more hb1)
      have hB1 := (hb1.block _ hBlt).trans hB
      have hBz : B < w1.heap.size := lt_of hB1
      have c12 : w1.cell? ⟨B, 2, none⟩ = some (.int .i64 sa) := cell_of hB1 rfl
      have c13 : w1.cell? ⟨B, 3, none⟩ = some (.int .i64 se) := cell_of hB1 rfl
      unfold secV
      clear hb1 hs hd hB hBlt hx
      replace hB1 := Lib.hid hB1
      go_wp2_with fail
      go_quiet (fail)
      go_wp2
      go_ret
      exact ⟨rfl, hs1.out.more (Below.drewN ((Below.refl _ _).alloc (Nat.le_refl _) _) _)⟩
end Go.Proofs.YtofejnhnnmnfpaaDoor.Fr
/- Parts of a string of known bytes, by run equations. No condition. -/
namespace Go.Proofs.YtofejnhnnmnfpaaDoor.Fr
set_option maxRecDepth 100000
open Go.RowKit
theorem sl_to (l : List UInt8) (n : Nat) (x : Int) (hx : x = n) (h : n ≤ l.length) (w : World) : (Instr.slice 9 (.string (mk l)) none (some (.int .i64 x)) none).run Tryd.prog w = .ok (.string (mk (l.take n))) w := by
  subst hx
  rw [run_slice_string_h w 9 (mk l) Tryd.underlying9 .i64 n (by omega) (by rw [mk_size]; omega), Int.toNat_natCast, mk_take]
theorem sl_from (l : List UInt8) (n : Nat) (x : Int) (hx : x = n) (h : n ≤ l.length) (w : World) : (Instr.slice 9 (.string (mk l)) (some (.int .i64 x)) none none).run Tryd.prog w = .ok (.string (mk (l.drop n))) w := by
  subst hx
  rw [run_slice_string_l w 9 (mk l) Tryd.underlying9 .i64 n (by omega) (by rw [mk_size]; omega), Int.toNat_natCast, mk_size, mk_drop l n h]
theorem sl_mid (l : List UInt8) (i m : Nat) (x y : Int) (hx : x = i) (hy : y = i + m) (h : i + m ≤ l.length) (w : World) : (Instr.slice 9 (.string (mk l)) (some (.int .i64 x)) (some (.int .i64 y)) none).run Tryd.prog w = .ok (.string (mk ((l.drop i).take m))) w := by
  subst hx
  obtain rfl : y = ((i + m : Nat) : Int) := by omega
  rw [run_slice_string w 9 (mk l) .i64 .i64 i ((i + m : Nat) : Int) Tryd.underlying9 (by omega) (by omega) (by rw [mk_size]; omega), Int.toNat_natCast, Int.toNat_natCast, mk_ext, Nat.add_sub_cancel_left]
end Go.Proofs.YtofejnhnnmnfpaaDoor.Fr
