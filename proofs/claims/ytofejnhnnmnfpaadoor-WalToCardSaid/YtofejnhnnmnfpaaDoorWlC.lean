/- Small methods of a log. No condition. -/
import Derived.Test.YtofejnhnnmnfpaaDoorWlP
import Derived.BigQuiet
import Derived.IntWalk
import Derived.Deep.QuietTactic
import Derived.Deep.RegionHeld3
namespace Go.Proofs.YtofejnhnnmnfpaaDoor
set_option maxRecDepth 100000
open Go.RowKit
theorem wl_drewN {B : Nat} {w w' : World} (h : Below B w w') (n : Nat) : Below B w (w'.drewN n) := ⟨h.os, h.tape, h.output, h.size, h.block⟩
theorem wl_cell {w w' : World} {a : Addr} {v : Value} (hb : Below w.heap.size w w') (h : w.cell? a = some v) : w'.cell? a = some v :=
  (World.cell?_of_block (w := w) (hb.block _ (World.block_lt_of_cell? w _ h))).trans h
/-- What Left reads, whatever was made meanwhile. -/
theorem lf_more {w0 w w' : World} {G secs end_ : Nat} {aw : Option Addr} {cw : Nat} {wl : List (List UInt8)}
    (h : w.cell? ⟨G, 2, none⟩ = some (.int .i64 (secs : Int)) ∧ w.cell? ⟨G, 6, none⟩ = some (.int .i64 (end_ : Int)) ∧ w.cell? ⟨G, 5, none⟩ = some (.slice aw wl.length cw) ∧ Hid (Fr.TAt w aw wl ∧ Below w0.heap.size w0 w)) (hb : Below w.heap.size w w') :
    w'.cell? ⟨G, 2, none⟩ = some (.int .i64 (secs : Int)) ∧ w'.cell? ⟨G, 6, none⟩ = some (.int .i64 (end_ : Int)) ∧ w'.cell? ⟨G, 5, none⟩ = some (.slice aw wl.length cw) ∧ Hid (Fr.TAt w' aw wl ∧ Below w0.heap.size w0 w') :=
  ⟨wl_cell hb h.1, wl_cell hb h.2.1, wl_cell hb h.2.2.1, Lib.hid ⟨h.2.2.2.out.1.more hb, h.2.2.2.out.2.trans (hb.mono h.2.2.2.out.2.size)⟩⟩
theorem lf_count {w0 w : World} {G secs end_ : Nat} {aw : Option Addr} {cw x : Nat} {wl : List (List UInt8)} (hx : x = lcnt wl) (hl : (Fr.stream wl).length ≤ 1000000)
    (h : w.cell? ⟨G, 2, none⟩ = some (.int .i64 (secs : Int)) ∧ w.cell? ⟨G, 6, none⟩ = some (.int .i64 (end_ : Int)) ∧ w.cell? ⟨G, 5, none⟩ = some (.slice aw wl.length cw) ∧ Hid (Fr.TAt w aw wl ∧ Below w0.heap.size w0 w)) :
    Calls Tryd.prog 33 #[.slice aw wl.length cw] w fun e w' => e = .returned (.int .i64 (x : Int)) ∧ (w'.cell? ⟨G, 2, none⟩ = some (.int .i64 (secs : Int)) ∧ w'.cell? ⟨G, 6, none⟩ = some (.int .i64 (end_ : Int)) ∧ w'.cell? ⟨G, 5, none⟩ = some (.slice aw wl.length cw) ∧ Hid (Fr.TAt w' aw wl ∧ Below w0.heap.size w0 w')) :=
  (Fr.count_any aw cw wl w (by omega) h.2.2.2.out.1).mono fun _ _ ⟨he, hb⟩ => ⟨by rw [he, hx]; rfl, lf_more h hb⟩
section
variable {w : World} {B G : Nat} {T : Nat → Prop} {L : Lg} {vl vw : Value} {ps : List Rp}
theorem xLast (h : LX w B G T L vl vw ps) : Calls Tryd.prog 14 #[.pointer (some ⟨G, 0, none⟩)] w fun e w' => e = .returned (.int .i64 (L.l.length : Int)) ∧ w = w' := by
  obtain ⟨al, cl, aw, cw, _, _, c0, c1, c2, c3, c4, c5, c6, hf, hG⟩ := h.cells
  clear c0 c1 c2 c3 c5 c6 hf hG h
  go_enter Tryd.func14, Tryd.ntmps14
  go_wp2
  go_ret
  exact ⟨rfl, rfl⟩
theorem xEpoch (h : LX w B G T L vl vw ps) : Calls Tryd.prog 16 #[.pointer (some ⟨G, 0, none⟩)] w fun e w' => e = .returned (.int .i64 (L.epoch : Int)) ∧ w = w' := by
  obtain ⟨al, cl, aw, cw, _, _, c0, c1, c2, c3, c4, c5, c6, hf, hG⟩ := h.cells
  clear c0 c1 c2 c4 c5 c6 hf hG h
  go_enter Tryd.func16, Tryd.ntmps16
  go_wp2
  go_ret
  exact ⟨rfl, rfl⟩
theorem xDurable (h : LX w B G T L vl vw ps) (h1 : L.l.length ≤ 1000000) (h2 : L.wait.length ≤ L.l.length) : Calls Tryd.prog 17 #[.pointer (some ⟨G, 0, none⟩)] w fun e w' => e = .returned (.int .i64 ((L.l.length - L.wait.length : Nat) : Int)) ∧ Below w.heap.size w w' := by
  obtain ⟨al, cl, aw, cw, _, _, c0, c1, c2, c3, c4, c5, c6, hf, hG⟩ := h.cells
  obtain ⟨x, hx⟩ : ∃ x, x = L.l.length - L.wait.length := ⟨_, rfl⟩
  have hxi : (L.l.length : Int) - (L.wait.length : Int) = (x : Int) := by omega
  rw [← hx]
  replace hx := Lib.hid hx
  clear c0 c1 c2 c3 c6 hf hG h
  go_enter Tryd.func17, Tryd.ntmps17
  go_wp2
  go_quiet (fail)
  go_wp2
  go_ret
  exact ⟨rfl, wl_drewN (Below.refl _ _) _⟩
theorem nLast (w : World) : Calls Tryd.prog 14 #[.pointer none] w fun e w' => e = .returned (.int .i64 0) ∧ w = w' := by
  go_enter Tryd.func14, Tryd.ntmps14
  go_wp2
  go_ret
  exact ⟨rfl, rfl⟩
theorem nEpoch (w : World) : Calls Tryd.prog 16 #[.pointer none] w fun e w' => e = .returned (.int .i64 0) ∧ w = w' := by
  go_enter Tryd.func16, Tryd.ntmps16
  go_wp2
  go_ret
  exact ⟨rfl, rfl⟩
theorem xLeft (h : LX w B G T L vl vw ps) (h1 : L.secs ≤ 4000) (h2 : L.end_ ≤ 4000) (h3 : (Fr.stream L.wait).length ≤ 1000000) : Calls Tryd.prog 13 #[.pointer (some ⟨G, 0, none⟩)] w fun e w' => e = .returned (.int .i64 ((L.secs : Int) - L.end_ - lcnt L.wait)) ∧ Below w.heap.size w w' := by
  obtain ⟨al, cl, aw, cw, e1, e2, c0, c1, c2, c3, c4, c5, c6, hf, hG⟩ := h.cells
  have ht : Fr.TAt w aw L.wait := by
    obtain ⟨a, c, e, ht⟩ := Fr.TAt.own h.rw_
    rw [e2] at e
    cases e
    exact ht
  obtain ⟨x, hx⟩ : ∃ x, x = lcnt L.wait := ⟨_, rfl⟩
  have hxl : x ≤ 20000 := by
    rw [hx]
    unfold lcnt Fr.bytesOf
    split
    · omega
    · simp
  have S0 : w.cell? ⟨G, 2, none⟩ = some (.int .i64 (L.secs : Int)) ∧ w.cell? ⟨G, 6, none⟩ = some (.int .i64 (L.end_ : Int)) ∧ w.cell? ⟨G, 5, none⟩ = some (.slice aw L.wait.length cw) ∧ Hid (Fr.TAt w aw L.wait ∧ Below w.heap.size w w) := ⟨c2, c6, c5, Lib.hid ⟨ht, Below.refl _ _⟩⟩
  rw [← hx]
  replace hx := Lib.hid hx
  clear c0 c1 c3 c4 hf h ht e1 e2
  have s1 : IntKind.i64.wrap ((L.secs : Int) - L.end_) = (L.secs : Int) - L.end_ := IntWalk.i64_in _ (by omega)
  have s2 : IntKind.i64.wrap ((L.secs : Int) - L.end_ - x) = (L.secs : Int) - L.end_ - x := IntWalk.i64_in _ (by omega)
  go_enter Tryd.func13, Tryd.ntmps13
  go_wp2
  go_region_held3 (fun w' => w'.cell? ⟨G, 2, none⟩ = some (.int .i64 (L.secs : Int)) ∧ w'.cell? ⟨G, 6, none⟩ = some (.int .i64 (L.end_ : Int)) ∧ w'.cell? ⟨G, 5, none⟩ = some (.slice aw L.wait.length cw) ∧ Hid (Fr.TAt w' aw L.wait ∧ Below w.heap.size w w')) (first | assumption | exact lf_more S0 (Below.refl _ _).drew) (first | (go_at_call 33; refine (lf_count hx.out h3 (by assumption)).mono ?_; rintro e wq ⟨rfl, hq⟩))
  all_goals
    have hfin := Lib.hid hq.2.2.2.out.2
    clear s1 s2
    go_wp2
    go_ret
    exact ⟨rfl, hfin.out⟩
theorem nLeft (w : World) : Calls Tryd.prog 13 #[.pointer none] w fun e w' => e = .returned (.int .i64 0) ∧ w = w' := by
  go_enter Tryd.func13, Tryd.ntmps13
  go_wp2
  go_ret
  exact ⟨rfl, rfl⟩
theorem nDurable (w : World) : Calls Tryd.prog 17 #[.pointer none] w fun e w' => e = .returned (.int .i64 0) ∧ w = w' := by
  go_enter Tryd.func17, Tryd.ntmps17
  go_wp2
  go_ret
  exact ⟨rfl, rfl⟩
end
end Go.Proofs.YtofejnhnnmnfpaaDoor
