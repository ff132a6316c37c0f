/- The walk of the law PageTells. No condition but the table of spaces. -/
import Derived.Test.YtcmbofoddfhnjaaDoorPRg
namespace Go.Proofs.YtcmbofoddfhnjaaDoor
open Go.RowKit
attribute [local go_sem] mk_size zs_length

/-- A page in a block. -/
def PB (w : World) (B : Nat) (p : Pg) : Prop := w.heap[B]? = some (.cells #[.int .i64 p.kind, .int .i64 p.depth, .int .i64 p.next, .string (mk p.body)] 23 (0, 0))
theorem PB.more {w w' : World} {B : Nat} {p : Pg} (h : PB w B p) (hb : Below w.heap.size w w') : PB w' B p := (hb.block _ (lt_of h)).trans h
theorem PB.alloc {w : World} {B : Nat} {p : Pg} (h : PB w B p) (o : Obj) : PB (w.alloc o) B p := h.more ((Below.refl _ _).alloc (Nat.le_refl _) _)
theorem PB.new (w : World) (k d n : Int) (b : List UInt8) : PB (w.alloc (.cells #[.int .i64 k, .int .i64 d, .int .i64 n, .string (mk b)] 23)) w.heap.size ⟨k, d, n, b⟩ := heap_alloc_new w _
theorem PB.cells {w : World} {B : Nat} {p : Pg} (h : PB w B p) : w.cell? ⟨B, 0, none⟩ = some (.int .i64 p.kind) ∧ w.cell? ⟨B, 1, none⟩ = some (.int .i64 p.depth) ∧ w.cell? ⟨B, 2, none⟩ = some (.int .i64 p.next) ∧ w.cell? ⟨B, 3, none⟩ = some (.string (mk p.body)) :=
  ⟨cell_of h rfl, cell_of h rfl, cell_of h rfl, cell_of h rfl⟩
def nonePg : Pg := ⟨0, 0, 0, []⟩
theorem pgV_form (o : Option Pg) : ∃ (g : Pg) (on : Bool), pgV o = .tuple #[.agg #[.int .i64 g.kind, .int .i64 g.depth, .int .i64 g.next, .string (mk g.body)], .bool on] := by
  cases o with
  | none => exact ⟨nonePg, false, rfl⟩
  | some p => exact ⟨p, true, rfl⟩

theorem t8_more {w0 w w' : World} {X Y E : Nat} {g pv : Pg} {kind depth : Int} (h : w.cell? ⟨X, 0, none⟩ = some (.int .i64 g.kind) ∧ w.cell? ⟨X, 1, none⟩ = some (.int .i64 g.depth) ∧ w.cell? ⟨X, 2, none⟩ = some (.int .i64 g.next) ∧ w.cell? ⟨X, 3, none⟩ = some (.string (mk (g.body))) ∧ w.cell? ⟨Y, 0, none⟩ = some (.int .i64 g.kind) ∧ w.cell? ⟨Y, 1, none⟩ = some (.int .i64 g.depth) ∧ w.cell? ⟨Y, 2, none⟩ = some (.int .i64 g.next) ∧ w.cell? ⟨Y, 3, none⟩ = some (.string (mk (g.body))) ∧ w.cell? ⟨E, 0, none⟩ = some (.int .i64 kind) ∧ w.cell? ⟨E, 1, none⟩ = some (.int .i64 depth) ∧ w.cell? ⟨E, 2, none⟩ = some (.int .i64 0) ∧ w.cell? ⟨E, 3, none⟩ = some (.string (mk (zs 240))) ∧ Hid (Tab w ∧ Below w0.heap.size w0 w ∧ PB w w0.heap.size pv)) (hb : Below w.heap.size w w') : w'.cell? ⟨X, 0, none⟩ = some (.int .i64 g.kind) ∧ w'.cell? ⟨X, 1, none⟩ = some (.int .i64 g.depth) ∧ w'.cell? ⟨X, 2, none⟩ = some (.int .i64 g.next) ∧ w'.cell? ⟨X, 3, none⟩ = some (.string (mk (g.body))) ∧ w'.cell? ⟨Y, 0, none⟩ = some (.int .i64 g.kind) ∧ w'.cell? ⟨Y, 1, none⟩ = some (.int .i64 g.depth) ∧ w'.cell? ⟨Y, 2, none⟩ = some (.int .i64 g.next) ∧ w'.cell? ⟨Y, 3, none⟩ = some (.string (mk (g.body))) ∧ w'.cell? ⟨E, 0, none⟩ = some (.int .i64 kind) ∧ w'.cell? ⟨E, 1, none⟩ = some (.int .i64 depth) ∧ w'.cell? ⟨E, 2, none⟩ = some (.int .i64 0) ∧ w'.cell? ⟨E, 3, none⟩ = some (.string (mk (zs 240))) ∧ Hid (Tab w' ∧ Below w0.heap.size w0 w' ∧ PB w' w0.heap.size pv) := by
  obtain ⟨a1, a2, a3, a4, a5, a6, a7, a8, a9, a10, a11, a12, h1⟩ := h
  exact ⟨same_cell hb a1, same_cell hb a2, same_cell hb a3, same_cell hb a4, same_cell hb a5, same_cell hb a6, same_cell hb a7, same_cell hb a8, same_cell hb a9, same_cell hb a10, same_cell hb a11, same_cell hb a12, Lib.hid ⟨h1.out.1.more hb, h1.out.2.1.trans (hb.mono h1.out.2.1.size), h1.out.2.2.more hb⟩⟩
theorem z8 {w0 w : World} {X Y E : Nat} {g pv : Pg} {kind depth : Int} (h : w.cell? ⟨X, 0, none⟩ = some (.int .i64 g.kind) ∧ w.cell? ⟨X, 1, none⟩ = some (.int .i64 g.depth) ∧ w.cell? ⟨X, 2, none⟩ = some (.int .i64 g.next) ∧ w.cell? ⟨X, 3, none⟩ = some (.string (mk (g.body))) ∧ w.cell? ⟨Y, 0, none⟩ = some (.int .i64 g.kind) ∧ w.cell? ⟨Y, 1, none⟩ = some (.int .i64 g.depth) ∧ w.cell? ⟨Y, 2, none⟩ = some (.int .i64 g.next) ∧ w.cell? ⟨Y, 3, none⟩ = some (.string (mk (g.body))) ∧ w.cell? ⟨E, 0, none⟩ = some (.int .i64 kind) ∧ w.cell? ⟨E, 1, none⟩ = some (.int .i64 depth) ∧ w.cell? ⟨E, 2, none⟩ = some (.int .i64 0) ∧ w.cell? ⟨E, 3, none⟩ = some (.string (mk (zs 240))) ∧ Hid (Tab w ∧ Below w0.heap.size w0 w ∧ PB w w0.heap.size pv)) :
    Calls Tryd.prog 15 #[.int .i64 240] w fun e w' => e = .returned (.string (mk (zs 240))) ∧ (w'.cell? ⟨X, 0, none⟩ = some (.int .i64 g.kind) ∧ w'.cell? ⟨X, 1, none⟩ = some (.int .i64 g.depth) ∧ w'.cell? ⟨X, 2, none⟩ = some (.int .i64 g.next) ∧ w'.cell? ⟨X, 3, none⟩ = some (.string (mk (g.body))) ∧ w'.cell? ⟨Y, 0, none⟩ = some (.int .i64 g.kind) ∧ w'.cell? ⟨Y, 1, none⟩ = some (.int .i64 g.depth) ∧ w'.cell? ⟨Y, 2, none⟩ = some (.int .i64 g.next) ∧ w'.cell? ⟨Y, 3, none⟩ = some (.string (mk (g.body))) ∧ w'.cell? ⟨E, 0, none⟩ = some (.int .i64 kind) ∧ w'.cell? ⟨E, 1, none⟩ = some (.int .i64 depth) ∧ w'.cell? ⟨E, 2, none⟩ = some (.int .i64 0) ∧ w'.cell? ⟨E, 3, none⟩ = some (.string (mk (zs 240))) ∧ Hid (Tab w' ∧ Below w0.heap.size w0 w' ∧ PB w' w0.heap.size pv)) :=
  (rz 240 240 w rfl (by omega)).mono fun _ _ ⟨he, hb⟩ => ⟨he, t8_more h hb⟩
theorem n8 {w0 w : World} {X Y E : Nat} {g pv : Pg} {kind depth : Int} {nm : List UInt8} (hn : nameOf kind = nm) (h : w.cell? ⟨X, 0, none⟩ = some (.int .i64 g.kind) ∧ w.cell? ⟨X, 1, none⟩ = some (.int .i64 g.depth) ∧ w.cell? ⟨X, 2, none⟩ = some (.int .i64 g.next) ∧ w.cell? ⟨X, 3, none⟩ = some (.string (mk (g.body))) ∧ w.cell? ⟨Y, 0, none⟩ = some (.int .i64 g.kind) ∧ w.cell? ⟨Y, 1, none⟩ = some (.int .i64 g.depth) ∧ w.cell? ⟨Y, 2, none⟩ = some (.int .i64 g.next) ∧ w.cell? ⟨Y, 3, none⟩ = some (.string (mk (g.body))) ∧ w.cell? ⟨E, 0, none⟩ = some (.int .i64 kind) ∧ w.cell? ⟨E, 1, none⟩ = some (.int .i64 depth) ∧ w.cell? ⟨E, 2, none⟩ = some (.int .i64 0) ∧ w.cell? ⟨E, 3, none⟩ = some (.string (mk (zs 240))) ∧ Hid (Tab w ∧ Below w0.heap.size w0 w ∧ PB w w0.heap.size pv)) :
    Calls Tryd.prog 16 #[.int .i64 kind] w fun e w' => e = .returned (.string (mk nm)) ∧ (w'.cell? ⟨X, 0, none⟩ = some (.int .i64 g.kind) ∧ w'.cell? ⟨X, 1, none⟩ = some (.int .i64 g.depth) ∧ w'.cell? ⟨X, 2, none⟩ = some (.int .i64 g.next) ∧ w'.cell? ⟨X, 3, none⟩ = some (.string (mk (g.body))) ∧ w'.cell? ⟨Y, 0, none⟩ = some (.int .i64 g.kind) ∧ w'.cell? ⟨Y, 1, none⟩ = some (.int .i64 g.depth) ∧ w'.cell? ⟨Y, 2, none⟩ = some (.int .i64 g.next) ∧ w'.cell? ⟨Y, 3, none⟩ = some (.string (mk (g.body))) ∧ w'.cell? ⟨E, 0, none⟩ = some (.int .i64 kind) ∧ w'.cell? ⟨E, 1, none⟩ = some (.int .i64 depth) ∧ w'.cell? ⟨E, 2, none⟩ = some (.int .i64 0) ∧ w'.cell? ⟨E, 3, none⟩ = some (.string (mk (zs 240))) ∧ Hid (Tab w' ∧ Below w0.heap.size w0 w' ∧ PB w' w0.heap.size pv)) :=
  (name_any kind w h.2.2.2.2.2.2.2.2.2.2.2.2.out.1).mono fun _ _ ⟨he, hb⟩ => ⟨by rw [he, hn], t8_more h hb⟩
set_option maxRecDepth 100000 in
set_option maxHeartbeats 1600000 in
theorem pageTells_walk (v : Value) (p : Pg) (b : ByteArray) (kind depth : Int) (w : World) (hT : Tab w) (hv : IsPage w v p) (hbs : b.size ≤ 140737488351232) (w2 : (Lit.int .i64 kind).wf = true) (w3 : (Lit.int .i64 depth).wf = true) :
    Calls Tryd.prog 3 #[v, .string b, .int .i64 kind, .int .i64 depth] w fun e w' => e = .returned (.bool true) ∧ Below w.heap.size w w' := by
  obtain ⟨rfl, q1, q2, q3, hlb⟩ := hv
  obtain ⟨k, d, x, body⟩ := p
  unfold pgA
  simp only at hlb q1 q2 q3 ⊢
  obtain ⟨bl, rfl⟩ : ∃ bl, b = mk bl := ⟨b.data.toList, (mk_of b).symm⟩
  rw [mk_size] at hbs
  have hal : ∀ o, Tab (w.alloc o) := fun o => hT.more ((Below.refl _ _).alloc (Nat.le_refl _) _)
  replace hal := Lib.hid hal
  by_cases d1 : 400 < (body.length : Int)
  · go_enter Tryd.func3, Tryd.ntmps3
    go_wp2_with fail
    refine (alive_true _ (hal.out _)).mono ?_
    rintro e w2 ⟨rfl, h2⟩
    go_wp2
    go_ret
    exact ⟨rfl, ((Below.refl _ _).alloc (Nat.le_refl _) _).trans (h2.mono (by simp))⟩
  by_cases d2 : 400 < (bl.length : Int)
  · go_enter Tryd.func3, Tryd.ntmps3
    go_wp2_with fail
    refine (alive_true _ (hal.out _)).mono ?_
    rintro e w2 ⟨rfl, h2⟩
    go_wp2
    go_ret
    exact ⟨rfl, ((Below.refl _ _).alloc (Nat.le_refl _) _).trans (h2.mono (by simp))⟩
  obtain ⟨S, ok, hp, hpok⟩ : ∃ (S : List UInt8) (ok : Bool), putV ⟨k, d, x, body⟩ = .tuple #[.string (mk S), .bool ok] ∧ (ok = true → pgV (pdec S) = .tuple #[.agg #[.int .i64 k, .int .i64 d, .int .i64 x, .string (mk body)], .bool true] ∧ S.length ≤ 400) := by
    by_cases c : pgOk ⟨k, d, x, body⟩ = true
    · exact ⟨penc ⟨k, d, x, body⟩, true, by rw [putV, if_pos c], fun _ => ⟨by rw [pdec_penc c]; rfl, by rw [penc_length (pgOk_iff.1 c).2.2.2.2.2.2]; omega⟩⟩
    · exact ⟨[], false, by rw [putV, if_neg c]; rfl, fun h => by cases h⟩
  obtain ⟨g, on, hg⟩ := pgV_form (pdec bl)
  go_enter Tryd.func3, Tryd.ntmps3
  go_wp2_with fail
  refine (alive_true _ (hal.out _)).mono ?_
  rintro e w2 ⟨rfl, h2⟩
  have hT2 := (hal.out _).more h2
  have P2 := (PB.new w k d x body).more h2
  have B2 := Lib.hid (((Below.refl _ _).alloc (Nat.le_refl _) _).trans (h2.mono (by simp)) : Below w.heap.size w w2)
  clear h2 hal
  obtain ⟨p0, p1, p2, p3⟩ := P2.cells
  simp only at p0 p1 p2 p3
  replace P2 := Lib.hid P2
  replace hT2 := Lib.hid hT2
  go_wp2_with fail
  refine (put_any k d x body _ hT2.out (by omega)).mono ?_
  rintro e w4 ⟨rfl, h4⟩
  rw [hp]
  have P4 := P2.out.more h4
  have T4 := hT2.out.more h4
  have B4 := Lib.hid (B2.out.trans (h4.mono B2.out.size))
  clear P2 hT2 h4 B2 p0 p1 p2 p3
  obtain ⟨p0, p1, p2, p3⟩ := P4.cells
  simp only at p0 p1 p2 p3
  replace P4 := Lib.hid P4
  replace T4 := Lib.hid T4
  go_wp2_with fail
  refine (rput_any k d x body _ (by omega)).mono ?_
  rintro e w5 ⟨rfl, h5⟩
  rw [hp]
  have P5 := Lib.hid (P4.out.more h5)
  have T5 := Lib.hid (T4.out.more h5)
  have B5 := Lib.hid (B4.out.trans (h5.mono B4.out.size))
  clear P4 T4 h5 B4 p0 p1 p2 p3
  go_wp2_with fail
  refine (get_any bl _ T5.out (by omega)).mono ?_
  rintro e w6 ⟨rfl, h6⟩
  rw [hg]
  have P6 := Lib.hid ((P5.out.more h6).alloc (.cells #[.int .i64 g.kind, .int .i64 g.depth, .int .i64 g.next, .string (mk g.body)] 23))
  have X6 := Lib.hid (PB.new w6 g.kind g.depth g.next g.body)
  have T6 := Lib.hid ((T5.out.more h6).more ((Below.refl _ _).alloc (Nat.le_refl _) (.cells #[.int .i64 g.kind, .int .i64 g.depth, .int .i64 g.next, .string (mk g.body)] 23)))
  have B6 := Lib.hid ((B5.out.trans (h6.mono B5.out.size)).alloc (B5.out.trans (h6.mono B5.out.size)).size (.cells #[.int .i64 g.kind, .int .i64 g.depth, .int .i64 g.next, .string (mk g.body)] 23))
  clear P5 T5 h6 B5
  go_wp2_with fail
  refine (rget_any bl _ (by omega)).mono ?_
  rintro e w7 ⟨rfl, h7⟩
  rw [hg]
  have P7 := Lib.hid ((P6.out.more h7).alloc (.cells #[.int .i64 g.kind, .int .i64 g.depth, .int .i64 g.next, .string (mk g.body)] 23))
  have X7 := Lib.hid ((X6.out.more h7).alloc (.cells #[.int .i64 g.kind, .int .i64 g.depth, .int .i64 g.next, .string (mk g.body)] 23))
  have Y7 := Lib.hid (PB.new w7 g.kind g.depth g.next g.body)
  have T7 := Lib.hid ((T6.out.more h7).more ((Below.refl _ _).alloc (Nat.le_refl _) (.cells #[.int .i64 g.kind, .int .i64 g.depth, .int .i64 g.next, .string (mk g.body)] 23)))
  have B7 := Lib.hid ((B6.out.trans (h7.mono B6.out.size)).alloc (B6.out.trans (h7.mono B6.out.size)).size (.cells #[.int .i64 g.kind, .int .i64 g.depth, .int .i64 g.next, .string (mk g.body)] 23))
  clear P6 T6 h7 B6 X6
  go_wp2_with fail
  refine (empty_any kind depth _).mono ?_
  rintro e w8 ⟨rfl, h8⟩
  have P8 := (P7.out.more h8).alloc (.cells #[.int .i64 kind, .int .i64 depth, .int .i64 0, .string (mk (zs 240))] 23)
  have X8 := (X7.out.more h8).alloc (.cells #[.int .i64 kind, .int .i64 depth, .int .i64 0, .string (mk (zs 240))] 23)
  have Y8 := (Y7.out.more h8).alloc (.cells #[.int .i64 kind, .int .i64 depth, .int .i64 0, .string (mk (zs 240))] 23)
  have E8 := PB.new w8 kind depth 0 (zs 240)
  have T8 := Lib.hid ((T7.out.more h8).more ((Below.refl _ _).alloc (Nat.le_refl _) (.cells #[.int .i64 kind, .int .i64 depth, .int .i64 0, .string (mk (zs 240))] 23)))
  have B8 := Lib.hid ((B7.out.trans (h8.mono B7.out.size)).alloc (B7.out.trans (h8.mono B7.out.size)).size (.cells #[.int .i64 kind, .int .i64 depth, .int .i64 0, .string (mk (zs 240))] 23))
  clear P7 T7 h8 B7 X7 Y7
  obtain ⟨p0, p1, p2, p3⟩ := P8.cells
  obtain ⟨x0, x1, x2, x3⟩ := X8.cells
  obtain ⟨y0, y1, y2, y3⟩ := Y8.cells
  obtain ⟨e0, e1, e2, e3⟩ := E8.cells
  simp only at p0 p1 p2 p3 e0 e1 e2 e3
  replace P8 := Lib.hid P8
  replace X8 := Lib.hid X8
  replace Y8 := Lib.hid Y8
  replace E8 := Lib.hid E8
  have CC := (show (w8.alloc (.cells #[.int .i64 kind, .int .i64 depth, .int .i64 0, .string (mk (zs 240))] 23)).cell? ⟨w6.heap.size, 0, none⟩ = some (.int .i64 g.kind) ∧ (w8.alloc (.cells #[.int .i64 kind, .int .i64 depth, .int .i64 0, .string (mk (zs 240))] 23)).cell? ⟨w6.heap.size, 1, none⟩ = some (.int .i64 g.depth) ∧ (w8.alloc (.cells #[.int .i64 kind, .int .i64 depth, .int .i64 0, .string (mk (zs 240))] 23)).cell? ⟨w6.heap.size, 2, none⟩ = some (.int .i64 g.next) ∧ (w8.alloc (.cells #[.int .i64 kind, .int .i64 depth, .int .i64 0, .string (mk (zs 240))] 23)).cell? ⟨w6.heap.size, 3, none⟩ = some (.string (mk (g.body))) ∧ (w8.alloc (.cells #[.int .i64 kind, .int .i64 depth, .int .i64 0, .string (mk (zs 240))] 23)).cell? ⟨w7.heap.size, 0, none⟩ = some (.int .i64 g.kind) ∧ (w8.alloc (.cells #[.int .i64 kind, .int .i64 depth, .int .i64 0, .string (mk (zs 240))] 23)).cell? ⟨w7.heap.size, 1, none⟩ = some (.int .i64 g.depth) ∧ (w8.alloc (.cells #[.int .i64 kind, .int .i64 depth, .int .i64 0, .string (mk (zs 240))] 23)).cell? ⟨w7.heap.size, 2, none⟩ = some (.int .i64 g.next) ∧ (w8.alloc (.cells #[.int .i64 kind, .int .i64 depth, .int .i64 0, .string (mk (zs 240))] 23)).cell? ⟨w7.heap.size, 3, none⟩ = some (.string (mk (g.body))) ∧ (w8.alloc (.cells #[.int .i64 kind, .int .i64 depth, .int .i64 0, .string (mk (zs 240))] 23)).cell? ⟨w8.heap.size, 0, none⟩ = some (.int .i64 kind) ∧ (w8.alloc (.cells #[.int .i64 kind, .int .i64 depth, .int .i64 0, .string (mk (zs 240))] 23)).cell? ⟨w8.heap.size, 1, none⟩ = some (.int .i64 depth) ∧ (w8.alloc (.cells #[.int .i64 kind, .int .i64 depth, .int .i64 0, .string (mk (zs 240))] 23)).cell? ⟨w8.heap.size, 2, none⟩ = some (.int .i64 0) ∧ (w8.alloc (.cells #[.int .i64 kind, .int .i64 depth, .int .i64 0, .string (mk (zs 240))] 23)).cell? ⟨w8.heap.size, 3, none⟩ = some (.string (mk (zs 240))) ∧ Hid (Tab (w8.alloc (.cells #[.int .i64 kind, .int .i64 depth, .int .i64 0, .string (mk (zs 240))] 23)) ∧ Below w.heap.size w (w8.alloc (.cells #[.int .i64 kind, .int .i64 depth, .int .i64 0, .string (mk (zs 240))] 23)) ∧ PB (w8.alloc (.cells #[.int .i64 kind, .int .i64 depth, .int .i64 0, .string (mk (zs 240))] 23)) w.heap.size ⟨k, d, x, body⟩) from ⟨x0, x1, x2, x3, y0, y1, y2, y3, e0, e1, e2, e3, Lib.hid ⟨T8.out, B8.out, P8.out⟩⟩)
  by_cases c1 : kind < 0
  · have hn : nameOf kind = [] := by rw [nameOf, if_neg (by omega)]
    replace hn := Lib.hid hn
    go_wp2_with fail
    go_region_held3 (fun w' => w'.cell? ⟨w6.heap.size, 0, none⟩ = some (.int .i64 g.kind) ∧ w'.cell? ⟨w6.heap.size, 1, none⟩ = some (.int .i64 g.depth) ∧ w'.cell? ⟨w6.heap.size, 2, none⟩ = some (.int .i64 g.next) ∧ w'.cell? ⟨w6.heap.size, 3, none⟩ = some (.string (mk (g.body))) ∧ w'.cell? ⟨w7.heap.size, 0, none⟩ = some (.int .i64 g.kind) ∧ w'.cell? ⟨w7.heap.size, 1, none⟩ = some (.int .i64 g.depth) ∧ w'.cell? ⟨w7.heap.size, 2, none⟩ = some (.int .i64 g.next) ∧ w'.cell? ⟨w7.heap.size, 3, none⟩ = some (.string (mk (g.body))) ∧ w'.cell? ⟨w8.heap.size, 0, none⟩ = some (.int .i64 kind) ∧ w'.cell? ⟨w8.heap.size, 1, none⟩ = some (.int .i64 depth) ∧ w'.cell? ⟨w8.heap.size, 2, none⟩ = some (.int .i64 0) ∧ w'.cell? ⟨w8.heap.size, 3, none⟩ = some (.string (mk (zs 240))) ∧ Hid (Tab w' ∧ Below w.heap.size w w' ∧ PB w' w.heap.size ⟨k, d, x, body⟩)) (first | assumption | exact t8_more CC (Below.refl _ _).drew) (first | (go_at_call 15; refine (z8 (by assumption)).mono ?_; rintro e wq ⟨rfl, hq⟩) | (go_at_call 16; refine (n8 hn.out (by assumption)).mono ?_; rintro e wq ⟨rfl, hq⟩))
    all_goals
      obtain ⟨_, _, _, _, _, _, _, _, _, _, _, _, hq⟩ := hq
      cases ok with
      | false =>
        go_wp2
        go_ret
        exact ⟨rfl, hq.out.2.1⟩
      | true =>
        have hok := hpok rfl
        go_wp2_with fail
        refine (get_any S _ hq.out.1 (by omega)).mono ?_
        rintro e wr ⟨rfl, hr⟩
        rw [hok.1]
        have hr2 := hq.out.2.2.more hr
        obtain ⟨z0, z1, z2, z3⟩ := hr2.cells
        have hlt := lt_of hr2
        simp only at z0 z1 z2 z3
        have hbr := Lib.hid (hq.out.2.1.trans (hr.mono hq.out.2.1.size))
        clear hr hr2 hq
        go_wp2
        go_ret
        exact ⟨rfl, hbr.out.alloc hbr.out.size _⟩
  by_cases c2 : 5 < kind
  · have hn : nameOf kind = [] := by rw [nameOf, if_pos (by omega), List.getD, List.getElem?_eq_none (by rw [kinds_len]; omega)]; rfl
    replace hn := Lib.hid hn
    go_wp2_with fail
    go_region_held3 (fun w' => w'.cell? ⟨w6.heap.size, 0, none⟩ = some (.int .i64 g.kind) ∧ w'.cell? ⟨w6.heap.size, 1, none⟩ = some (.int .i64 g.depth) ∧ w'.cell? ⟨w6.heap.size, 2, none⟩ = some (.int .i64 g.next) ∧ w'.cell? ⟨w6.heap.size, 3, none⟩ = some (.string (mk (g.body))) ∧ w'.cell? ⟨w7.heap.size, 0, none⟩ = some (.int .i64 g.kind) ∧ w'.cell? ⟨w7.heap.size, 1, none⟩ = some (.int .i64 g.depth) ∧ w'.cell? ⟨w7.heap.size, 2, none⟩ = some (.int .i64 g.next) ∧ w'.cell? ⟨w7.heap.size, 3, none⟩ = some (.string (mk (g.body))) ∧ w'.cell? ⟨w8.heap.size, 0, none⟩ = some (.int .i64 kind) ∧ w'.cell? ⟨w8.heap.size, 1, none⟩ = some (.int .i64 depth) ∧ w'.cell? ⟨w8.heap.size, 2, none⟩ = some (.int .i64 0) ∧ w'.cell? ⟨w8.heap.size, 3, none⟩ = some (.string (mk (zs 240))) ∧ Hid (Tab w' ∧ Below w.heap.size w w' ∧ PB w' w.heap.size ⟨k, d, x, body⟩)) (first | assumption | exact t8_more CC (Below.refl _ _).drew) (first | (go_at_call 15; refine (z8 (by assumption)).mono ?_; rintro e wq ⟨rfl, hq⟩) | (go_at_call 16; refine (n8 hn.out (by assumption)).mono ?_; rintro e wq ⟨rfl, hq⟩))
    all_goals
      obtain ⟨_, _, _, _, _, _, _, _, _, _, _, _, hq⟩ := hq
      cases ok with
      | false =>
        go_wp2
        go_ret
        exact ⟨rfl, hq.out.2.1⟩
      | true =>
        have hok := hpok rfl
        go_wp2_with fail
        refine (get_any S _ hq.out.1 (by omega)).mono ?_
        rintro e wr ⟨rfl, hr⟩
        rw [hok.1]
        have hr2 := hq.out.2.2.more hr
        obtain ⟨z0, z1, z2, z3⟩ := hr2.cells
        have hlt := lt_of hr2
        simp only at z0 z1 z2 z3
        have hbr := Lib.hid (hq.out.2.1.trans (hr.mono hq.out.2.1.size))
        clear hr hr2 hq
        go_wp2
        go_ret
        exact ⟨rfl, hbr.out.alloc hbr.out.size _⟩
  · obtain ⟨n, rfl⟩ := Int.eq_ofNat_of_zero_le (show 0 ≤ kind by omega)
    obtain ⟨nm, hnm⟩ : ∃ nm, nm = kinds.getD n [] := ⟨_, rfl⟩
    have hn : nameOf n = nm := by rw [hnm, nameOf, if_pos (by omega), Int.toNat_natCast]
    have hg6 := kinds_get n (by omega)
    rw [← hnm] at hg6
    have hkt : ((kinds.map fun l => Value.string (mk l)).toArray) = #[.string ⟨#[102, 114, 101, 101]⟩, .string ⟨#[100, 105, 114]⟩, .string ⟨#[109, 97, 112]⟩, .string ⟨#[98, 117, 99, 107, 101, 116]⟩, .string ⟨#[111, 118, 101, 114, 102, 108, 111, 119]⟩, .string ⟨#[98, 108, 111, 98]⟩] := rfl
    rw [hkt] at hg6
    have hcell : ∀ w0 : World, (w0.alloc (.cells #[.string ⟨#[102, 114, 101, 101]⟩, .string ⟨#[100, 105, 114]⟩, .string ⟨#[109, 97, 112]⟩, .string ⟨#[98, 117, 99, 107, 101, 116]⟩, .string ⟨#[111, 118, 101, 114, 102, 108, 111, 119]⟩, .string ⟨#[98, 108, 111, 98]⟩] 9)).cell? ⟨w0.heap.size, n, none⟩ = some (.string (mk nm)) := fun w0 => cell_of (heap_alloc_new w0 _) hg6
    replace hn := Lib.hid hn
    replace hnm := Lib.hid hnm
    clear hg6 hkt
    have hc2 := hcell (w8.alloc (.cells #[.int .i64 n, .int .i64 depth, .int .i64 0, .string (mk (zs 240))] 23))
    replace CC := t8_more CC ((Below.refl _ _).alloc (Nat.le_refl _) (.cells #[.string ⟨#[102, 114, 101, 101]⟩, .string ⟨#[100, 105, 114]⟩, .string ⟨#[109, 97, 112]⟩, .string ⟨#[98, 117, 99, 107, 101, 116]⟩, .string ⟨#[111, 118, 101, 114, 102, 108, 111, 119]⟩, .string ⟨#[98, 108, 111, 98]⟩] 9))
    rw [show (w8.alloc (.cells #[.int .i64 n, .int .i64 depth, .int .i64 0, .string (mk (zs 240))] 23)).heap.size = w8.heap.size + 1 by simp] at hc2
    clear hcell
    go_wp2_with fail
    go_region_held3 (fun w' => w'.cell? ⟨w6.heap.size, 0, none⟩ = some (.int .i64 g.kind) ∧ w'.cell? ⟨w6.heap.size, 1, none⟩ = some (.int .i64 g.depth) ∧ w'.cell? ⟨w6.heap.size, 2, none⟩ = some (.int .i64 g.next) ∧ w'.cell? ⟨w6.heap.size, 3, none⟩ = some (.string (mk (g.body))) ∧ w'.cell? ⟨w7.heap.size, 0, none⟩ = some (.int .i64 g.kind) ∧ w'.cell? ⟨w7.heap.size, 1, none⟩ = some (.int .i64 g.depth) ∧ w'.cell? ⟨w7.heap.size, 2, none⟩ = some (.int .i64 g.next) ∧ w'.cell? ⟨w7.heap.size, 3, none⟩ = some (.string (mk (g.body))) ∧ w'.cell? ⟨w8.heap.size, 0, none⟩ = some (.int .i64 n) ∧ w'.cell? ⟨w8.heap.size, 1, none⟩ = some (.int .i64 depth) ∧ w'.cell? ⟨w8.heap.size, 2, none⟩ = some (.int .i64 0) ∧ w'.cell? ⟨w8.heap.size, 3, none⟩ = some (.string (mk (zs 240))) ∧ Hid (Tab w' ∧ Below w.heap.size w w' ∧ PB w' w.heap.size ⟨k, d, x, body⟩)) (first | assumption | exact t8_more CC (Below.refl _ _).drew) (first | (go_at_call 15; refine (z8 (by assumption)).mono ?_; rintro e wq ⟨rfl, hq⟩) | (go_at_call 16; refine (n8 hn.out (by assumption)).mono ?_; rintro e wq ⟨rfl, hq⟩))
    all_goals
      obtain ⟨_, _, _, _, _, _, _, _, _, _, _, _, hq⟩ := hq
      cases ok with
      | false =>
        go_wp2
        go_ret
        exact ⟨rfl, hq.out.2.1⟩
      | true =>
        have hok := hpok rfl
        go_wp2_with fail
        refine (get_any S _ hq.out.1 (by omega)).mono ?_
        rintro e wr ⟨rfl, hr⟩
        rw [hok.1]
        have hr2 := hq.out.2.2.more hr
        obtain ⟨z0, z1, z2, z3⟩ := hr2.cells
        have hlt := lt_of hr2
        simp only at z0 z1 z2 z3
        have hbr := Lib.hid (hq.out.2.1.trans (hr.mono hq.out.2.1.size))
        clear hr hr2 hq
        go_wp2
        go_ret
        exact ⟨rfl, hbr.out.alloc hbr.out.size _⟩
end Go.Proofs.YtcmbofoddfhnjaaDoor
