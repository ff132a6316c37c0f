/- SameRecord of the laws. No condition. -/
import Derived.Test.YtofejnhnnmnfpaaDoorRXs
import Derived.Test.YtofejnhnnmnfpaaDoorRecQ
namespace Go.Proofs.YtofejnhnnmnfpaaDoor.Rc
set_option maxRecDepth 100000
open Go.RowKit
attribute [local go_sem high] eql_cell
theorem two_boxes {w : World} {o1 o2 : Obj} (h1 : (w.alloc o1).heap[w.heap.size]? = some o1) (h2 : ((w.alloc o1).alloc o2).heap[w.heap.size + 1]? = some o2) {w3 : World} {n : Nat} (h : Below (((w.alloc o1).alloc o2).drewN n).heap.size (((w.alloc o1).alloc o2).drewN n) w3) : w3.heap[w.heap.size]? = some o1 ∧ w3.heap[w.heap.size + 1]? = some o2 := by
  have c : Chg (fun _ => False) (((w.alloc o1).alloc o2).drewN n) w3 := Chg.of_below h
  have c1 : Chg (fun _ => False) (w.alloc o1) ((w.alloc o1).alloc o2) := (Chg.refl _ _).alloc o2
  exact ⟨c.heap (c1.heap h1 id) id, c.heap h2 id⟩
/-- Few enough to be compared. -/
structure Small (r : Rec) : Prop where
  pages : r.pages.length ≤ 1000000
  pats : r.pats.length ≤ 1000000
  txs : r.txs.length ≤ 1000000
  dirty : r.dirty.length ≤ 1000000
  each : ∀ t ∈ r.txs, t.pages.length ≤ 1000000
set_option maxRecDepth 100000 in
set_option maxHeartbeats 6400000 in
theorem sameR_any (v vp vt vx vd u up ut ux ud : Value) (r s : Rec) (w : World) (h1 : RecAt w v vp vt vx vd r) (h2 : RecAt w u up ut ux ud s) (hs : Small r) :
    Calls Tryd.prog 22 #[v, u] w fun e w' => e = .returned (.bool (decide (r = s))) ∧ Below w.heap.size w w' := by
  obtain ⟨rfl, hp1, ht1, hx1, hd1⟩ := h1
  obtain ⟨rfl, hp2, ht2, hx2, hd2⟩ := h2
  obtain ⟨l1, l2, l3, l4, l5⟩ := hs
  obtain ⟨x, hr⟩ : ∃ x, x = decide (r = s) := ⟨_, rfl⟩
  rw [← hr]
  obtain ⟨k1, t1, p1, n1, key1, had1, ⟨a1, b1, c1, d1⟩, pg1, pt1, tx1, dr1⟩ := r
  obtain ⟨k2, t2, p2, n2, key2, had2, ⟨a2, b2, c2, d2⟩, pg2, pt2, tx2, dr2⟩ := s
  simp only at hp1 ht1 hx1 hd1 hp2 ht2 hx2 hd2 l1 l2 l3 l4 l5 ⊢
  have hr' : x = true ↔ (k1 = k2 ∧ t1 = t2 ∧ p1 = p2 ∧ n1 = n2 ∧ key1 = key2 ∧ had1 = had2 ∧ (⟨a1, b1, c1, d1⟩ : Cl) = ⟨a2, b2, c2, d2⟩ ∧ pg1 = pg2 ∧ pt1 = pt2 ∧ tx1 = tx2 ∧ dr1 = dr2) := by rw [hr, decide_eq_true_eq, Rec.mk.injEq]
  clear hr
  have hb : ∀ o1 o2, Below w.heap.size w ((w.alloc o1).alloc o2) := fun o1 o2 => ((Below.refl _ _).alloc (Nat.le_refl _) o1).alloc (by simp) o2
  have C8 := fun w1 (h : Below w.heap.size w w1) => sameI_any vp up pg1 pg2 w1 (hp1.more h) (hp2.more h) l1
  have C9 := fun w1 (h : Below w.heap.size w w1) => sameP_any vt ut pt1 pt2 w1 (ht1.more h) (ht2.more h) l2
  have C10 := fun w1 (h : Below w.heap.size w w1) => sameT_any vx ux tx1 tx2 w1 (hx1.more h) (hx2.more h) l3 l5
  have C11 := fun w1 (h : Below w.heap.size w w1) => sameD_any vd ud dr1 dr2 w1 (hd1.more h) (hd2.more h) l4
  have hO := fun w3 n => two_boxes (w := w) (o1 := .cells #[.int .i64 k1, .int .i64 t1, .int .i64 p1, .int .i64 n1, .string (mk key1), .bool had1, .string (mk a1), .string (mk b1), .int .i64 c1, .int .i64 d1, vp, vt, vx, vd] 37 (0, 0)) (o2 := .cells #[.int .i64 k2, .int .i64 t2, .int .i64 p2, .int .i64 n2, .string (mk key2), .bool had2, .string (mk a2), .string (mk b2), .int .i64 c2, .int .i64 d2, up, ut, ux, ud] 37 (0, 0)) (heap_alloc_new w _) (by have := heap_alloc_new (w.alloc (.cells #[.int .i64 k1, .int .i64 t1, .int .i64 p1, .int .i64 n1, .string (mk key1), .bool had1, .string (mk a1), .string (mk b1), .int .i64 c1, .int .i64 d1, vp, vt, vx, vd] 37 (0, 0))) (.cells #[.int .i64 k2, .int .i64 t2, .int .i64 p2, .int .i64 n2, .string (mk key2), .bool had2, .string (mk a2), .string (mk b2), .int .i64 c2, .int .i64 d2, up, ut, ux, ud] 37 (0, 0)); rwa [World.size_alloc] at this) (w3 := w3) (n := n)
  clear hp1 ht1 hx1 hd1 hp2 ht2 hx2 hd2 l1 l2 l3 l4 l5
  replace hb := Lib.hid hb
  replace hO := Lib.hid hO
  by_cases q1 : k1 = k2
  case neg =>
    have z1 := beq_eq_false_iff_ne.2 q1
    obtain rfl := eqno hr' (fun e => q1 e.1)
    clear C8 C9 C10 C11 q1 hr' hO
    go_enter Tryd.func22, Tryd.ntmps22
    go_wp2
    go_ret
    exact ⟨rfl, hb.out _ _⟩
  subst q1
  by_cases q2 : t1 = t2
  case neg =>
    have z2 := beq_eq_false_iff_ne.2 q2
    obtain rfl := eqno hr' (fun e => q2 e.2.1)
    clear C8 C9 C10 C11 q2 hr' hO
    go_enter Tryd.func22, Tryd.ntmps22
    go_wp2
    go_ret
    exact ⟨rfl, hb.out _ _⟩
  subst q2
  by_cases q3 : p1 = p2
  case neg =>
    have z3 := beq_eq_false_iff_ne.2 q3
    obtain rfl := eqno hr' (fun e => q3 e.2.2.1)
    clear C8 C9 C10 C11 q3 hr' hO
    go_enter Tryd.func22, Tryd.ntmps22
    go_wp2
    go_ret
    exact ⟨rfl, hb.out _ _⟩
  subst q3
  by_cases q4 : n1 = n2
  case neg =>
    have z4 := beq_eq_false_iff_ne.2 q4
    obtain rfl := eqno hr' (fun e => q4 e.2.2.2.1)
    clear C8 C9 C10 C11 q4 hr' hO
    go_enter Tryd.func22, Tryd.ntmps22
    go_wp2
    go_ret
    exact ⟨rfl, hb.out _ _⟩
  subst q4
  by_cases q5 : key1 = key2
  case neg =>
    have z5 := beq_eq_false_iff_ne.2 q5
    obtain rfl := eqno hr' (fun e => q5 e.2.2.2.2.1)
    clear C8 C9 C10 C11 q5 hr' hO
    go_enter Tryd.func22, Tryd.ntmps22
    go_wp2
    go_ret
    exact ⟨rfl, hb.out _ _⟩
  subst q5
  by_cases q6 : had1 = had2
  case neg =>
    have z6 := beq_eq_false_iff_ne.2 q6
    obtain rfl := eqno hr' (fun e => q6 e.2.2.2.2.2.1)
    clear C8 C9 C10 C11 q6 hr' hO
    go_enter Tryd.func22, Tryd.ntmps22
    go_wp2
    go_ret
    exact ⟨rfl, hb.out _ _⟩
  subst q6
  by_cases q7 : (⟨a1, b1, c1, d1⟩ : Cl) = ⟨a2, b2, c2, d2⟩
  case neg =>
    have z7 : eqC ⟨a1, b1, c1, d1⟩ ⟨a2, b2, c2, d2⟩ = false := decide_eq_false q7
    obtain rfl := eqno hr' (fun e => q7 e.2.2.2.2.2.2.1)
    clear C8 C9 C10 C11 q7 hr' hO
    go_enter Tryd.func22, Tryd.ntmps22
    go_wp2
    go_ret
    exact ⟨rfl, hb.out _ _⟩
  have z7 : eqC ⟨a1, b1, c1, d1⟩ ⟨a2, b2, c2, d2⟩ = true := decide_eq_true q7
  replace q7 := Lib.hid q7
  by_cases q8 : pg1 = pg2
  case neg =>
    rw [decide_eq_false q8] at C8
    replace C8 := Lib.hid C8
    obtain rfl := eqno hr' (fun e => q8 e.2.2.2.2.2.2.2.1)
    clear C9 C10 C11 q8 hr'
    go_enter Tryd.func22, Tryd.ntmps22
    go_wp2_with fail
    refine (C8.out _ (hb.out _ _)).mono ?_
    rintro e w8 ⟨rfl, n8, rfl⟩
    go_wp2
    go_ret
    exact ⟨rfl, below_drewN (hb.out _ _) _⟩
  rw [decide_eq_true q8] at C8
  replace C8 := Lib.hid C8
  by_cases q9 : pt1 = pt2
  case neg =>
    rw [decide_eq_false q9] at C9
    replace C9 := Lib.hid C9
    obtain rfl := eqno hr' (fun e => q9 e.2.2.2.2.2.2.2.2.1)
    clear C10 C11 q9 hr'
    go_enter Tryd.func22, Tryd.ntmps22
    go_wp2_with fail
    refine (C8.out _ (hb.out _ _)).mono ?_
    rintro e w8 ⟨rfl, n8, rfl⟩
    go_wp2_with fail
    refine (C9.out _ (below_drewN (hb.out _ _) _)).mono ?_
    rintro e w9 ⟨rfl, n9, rfl⟩
    go_wp2
    go_ret
    exact ⟨rfl, below_drewN (hb.out _ _) _⟩
  rw [decide_eq_true q9] at C9
  replace C9 := Lib.hid C9
  by_cases q10 : tx1 = tx2
  case neg =>
    rw [decide_eq_false q10] at C10
    replace C10 := Lib.hid C10
    obtain rfl := eqno hr' (fun e => q10 e.2.2.2.2.2.2.2.2.2.1)
    clear C11 q10 hr'
    go_enter Tryd.func22, Tryd.ntmps22
    go_wp2_with fail
    refine (C8.out _ (hb.out _ _)).mono ?_
    rintro e w8 ⟨rfl, n8, rfl⟩
    go_wp2_with fail
    refine (C9.out _ (below_drewN (hb.out _ _) _)).mono ?_
    rintro e w9 ⟨rfl, n9, rfl⟩
    go_wp2_with fail
    refine (C10.out _ (below_drewN (hb.out _ _) _)).mono ?_
    rintro e w10 ⟨rfl, hb3⟩
    have hb4 := Lib.hid ((below_drewN (hb.out _ _) _).trans (hb3.mono (hb.out _ _).size))
    clear hb3
    go_wp2
    go_ret
    exact ⟨rfl, hb4.out⟩
  rw [decide_eq_true q10] at C10
  replace C10 := Lib.hid C10
  have q11 : x = decide (dr1 = dr2) := eqas (hr'.trans ⟨fun e => e.2.2.2.2.2.2.2.2.2.2, fun e => ⟨rfl, rfl, rfl, rfl, rfl, rfl, q7.out, q8, q9, q10, e⟩⟩)
  rw [← q11] at C11
  replace C11 := Lib.hid C11
  replace q11 := Lib.hid q11
  clear hr' q8 q9 q10
  go_enter Tryd.func22, Tryd.ntmps22
  go_wp2_with fail
  refine (C8.out _ (hb.out _ _)).mono ?_
  rintro e w8 ⟨rfl, n8, rfl⟩
  go_wp2_with fail
  refine (C9.out _ (below_drewN (hb.out _ _) _)).mono ?_
  rintro e w9 ⟨rfl, n9, rfl⟩
  go_wp2_with fail
  refine (C10.out _ (below_drewN (hb.out _ _) _)).mono ?_
  rintro e w10 ⟨rfl, hb3⟩
  obtain ⟨⟨d0, d1', d2', d3, d4, d5, d6⟩, ⟨d7, d8, d9, d10, d11, d12, d13⟩, hl1⟩ := rec_cells (hO.out _ _ hb3).1
  obtain ⟨⟨f0, f1, f2, f3, f4, f5, f6⟩, ⟨f7, f8, f9, f10, f11, f12, f13⟩, hl2⟩ := rec_cells (hO.out _ _ hb3).2
  have hb4 := Lib.hid ((below_drewN (hb.out _ _) _).trans (hb3.mono (hb.out _ _).size))
  clear hb3
  go_wp2_with fail
  refine (C11.out _ hb4.out).mono ?_
  rintro e w11 ⟨rfl, n11, rfl⟩
  go_wp2
  go_ret
  exact ⟨rfl, below_drewN hb4.out _⟩
end Go.Proofs.YtofejnhnnmnfpaaDoor.Rc
