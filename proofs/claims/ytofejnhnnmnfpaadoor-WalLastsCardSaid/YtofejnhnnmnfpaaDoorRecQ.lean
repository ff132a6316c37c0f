/- Right of package record. No condition but the table of spaces. -/
import Derived.Test.YtofejnhnnmnfpaaDoorRCs
namespace Go.Proofs.YtofejnhnnmnfpaaDoor.Rc
set_option maxRecDepth 100000
open Go.RowKit
/-- A record in a variable of the call's own. -/
theorem rec_cells {x : World} {b : Nat} {c0 c1 c2 c3 c4 c5 c6 c7 c8 c9 c10 c11 c12 c13 : Value} {t : TypeId} (h : x.heap[b]? = some (.cells #[c0, c1, c2, c3, c4, c5, c6, c7, c8, c9, c10, c11, c12, c13] t (0, 0))) :
    (x.cell? ⟨b, 0, none⟩ = some c0 ∧ x.cell? ⟨b, 1, none⟩ = some c1 ∧ x.cell? ⟨b, 2, none⟩ = some c2 ∧ x.cell? ⟨b, 3, none⟩ = some c3 ∧ x.cell? ⟨b, 4, none⟩ = some c4 ∧ x.cell? ⟨b, 5, none⟩ = some c5 ∧ x.cell? ⟨b, 6, none⟩ = some c6) ∧
    (x.cell? ⟨b, 7, none⟩ = some c7 ∧ x.cell? ⟨b, 8, none⟩ = some c8 ∧ x.cell? ⟨b, 9, none⟩ = some c9 ∧ x.cell? ⟨b, 10, none⟩ = some c10 ∧ x.cell? ⟨b, 11, none⟩ = some c11 ∧ x.cell? ⟨b, 12, none⟩ = some c12 ∧ x.cell? ⟨b, 13, none⟩ = some c13) ∧ b < x.heap.size :=
  ⟨⟨cell_of h rfl, cell_of h rfl, cell_of h rfl, cell_of h rfl, cell_of h rfl, cell_of h rfl, cell_of h rfl⟩, ⟨cell_of h rfl, cell_of h rfl, cell_of h rfl, cell_of h rfl, cell_of h rfl, cell_of h rfl, cell_of h rfl⟩, lt_of h⟩
set_option maxRecDepth 100000 in
set_option maxHeartbeats 6400000 in
theorem right_any (v vp vt vx vd : Value) (r : Rec) (w : World) (hT : Tab w) (h : RecAt w v vp vt vx vd r) : Calls Tryd.prog 62 #[v] w fun e w' => e = .returned (.bool (recOk r)) ∧ Below w.heap.size w w' := by
  obtain ⟨rfl, hp, ht, hx, hd⟩ := h
  obtain ⟨kind, tx, prev, next, key, had, ⟨ok, ov, ob, os⟩, pages, pats, txs, dirty⟩ := r
  simp only at hp ht hx hd ⊢
  obtain ⟨res, hr⟩ : ∃ x, x = recOk ⟨kind, tx, prev, next, key, had, ⟨ok, ov, ob, os⟩, pages, pats, txs, dirty⟩ := ⟨_, rfl⟩
  rw [← hr]
  simp only [recOk] at hr
  have hw0 : ∀ o, Below w.heap.size w (w.alloc o) := fun o => (Below.refl _ _).alloc (Nat.le_refl _) o
  have hN := fun o => name_any kind (w.alloc o) (hT.more (hw0 o))
  have hB1 : ∀ o w1, Below (w.alloc o).heap.size (w.alloc o) w1 → Below w.heap.size w w1 := fun o w1 hb => (hw0 o).trans (hb.mono (by simp))
  have hO1 : ∀ w1, Below (w.alloc (.cells #[.int .i64 kind, .int .i64 tx, .int .i64 prev, .int .i64 next, .string (mk key), .bool had, .string (mk ok), .string (mk ov), .int .i64 ob, .int .i64 os, vp, vt, vx, vd] 37)).heap.size (w.alloc (.cells #[.int .i64 kind, .int .i64 tx, .int .i64 prev, .int .i64 next, .string (mk key), .bool had, .string (mk ok), .string (mk ov), .int .i64 ob, .int .i64 os, vp, vt, vx, vd] 37)) w1 → w1.heap[w.heap.size]? = some (.cells #[.int .i64 kind, .int .i64 tx, .int .i64 prev, .int .i64 next, .string (mk key), .bool had, .string (mk ok), .string (mk ov), .int .i64 ob, .int .i64 os, vp, vt, vx, vd] 37 (0, 0)) := fun w1 hb => (Chg.of_below (S := fun _ => False) hb).heap (heap_alloc_new w _) id
  have hsz := mk_size key
  clear hw0
  replace hN := Lib.hid hN
  replace hB1 := Lib.hid hB1
  replace hO1 := Lib.hid hO1
  by_cases c0 : 1 ≤ kind ∧ kind ≤ 7
  case neg =>
    rw [show res = false by rw [hr]; simp only [Bool.and_eq_false_iff, decide_eq_false_iff_not]; omega]
    have hn := (nameOf_nil kind).2 c0
    rw [hn] at hN
    clear hr hp ht hx hd hsz
    go_enter Tryd.func62, Tryd.ntmps62
    go_wp2_with fail
    refine (hN.out _).mono ?_
    rintro e w1 ⟨rfl, hb⟩
    replace hb := Lib.hid (hB1.out _ _ hb)
    go_wp2
    go_ret
    exact ⟨rfl, hb.out⟩
  have hne : (nameOf kind).isEmpty = false := by
    have : nameOf kind ≠ [] := fun e => (nameOf_nil kind).1 e c0
    simpa using this
  have hr1 : res = (short tx && long prev && long next && decide (key.length ≤ 255) && (decide ((⟨ok, ov, ob, os⟩ : Cl) = Cl.zero) || cellOk ⟨ok, ov, ob, os⟩) && pagesOk pages && decide (pats.length ≤ 40) && decide (txs.length ≤ 8) && decide (dirty.length ≤ 64) && pats.all patOk && txs.all txOk && dirty.all dirOk) := by rw [hr]; simp [c0]
  have hC1 := fun w => in_short tx w
  have hC2 := fun w => in_long prev w
  have hC3 := fun w => in_long next w
  clear hr
  cases c1 : short tx
  case false =>
    simp only [c1] at hC1 hr1
    simp only [Bool.false_and] at hr1
    subst hr1
    replace hC1 := Lib.hid hC1
    clear hp ht hx hd hsz hC2 hC3
    go_enter Tryd.func62, Tryd.ntmps62
    go_wp2_with fail
    refine (hN.out _).mono ?_
    rintro e w1 ⟨rfl, hb⟩
    obtain ⟨⟨_, d1, d2, d3, d4, d5, d6⟩, ⟨d7, d8, d9, d10, d11, d12, d13⟩, hl1⟩ := rec_cells (hO1.out _ hb)
    replace hb := Lib.hid (hB1.out _ _ hb)
    go_wp2_with fail
    refine (hC1.out _).mono ?_
    rintro e w' ⟨rfl, rfl⟩
    go_wp2
    go_ret
    exact ⟨rfl, hb.out⟩
  simp only [c1] at hC1 hr1
  simp only [Bool.true_and] at hr1
  replace hC1 := Lib.hid hC1
  cases c2 : long prev
  case false =>
    simp only [c2] at hC2 hr1
    simp only [Bool.false_and] at hr1
    subst hr1
    replace hC2 := Lib.hid hC2
    clear hp ht hx hd hsz hC3
    go_enter Tryd.func62, Tryd.ntmps62
    go_wp2_with fail
    refine (hN.out _).mono ?_
    rintro e w1 ⟨rfl, hb⟩
    obtain ⟨⟨_, d1, d2, d3, d4, d5, d6⟩, ⟨d7, d8, d9, d10, d11, d12, d13⟩, hl1⟩ := rec_cells (hO1.out _ hb)
    replace hb := Lib.hid (hB1.out _ _ hb)
    go_wp2_with fail
    refine (hC1.out _).mono ?_
    rintro e w' ⟨rfl, rfl⟩
    go_wp2_with fail
    refine (hC2.out _).mono ?_
    rintro e w' ⟨rfl, rfl⟩
    go_wp2
    go_ret
    exact ⟨rfl, hb.out⟩
  simp only [c2] at hC2 hr1
  simp only [Bool.true_and] at hr1
  replace hC2 := Lib.hid hC2
  cases c3 : long next
  case false =>
    simp only [c3] at hC3 hr1
    simp only [Bool.false_and] at hr1
    subst hr1
    replace hC3 := Lib.hid hC3
    clear hp ht hx hd hsz 
    go_enter Tryd.func62, Tryd.ntmps62
    go_wp2_with fail
    refine (hN.out _).mono ?_
    rintro e w1 ⟨rfl, hb⟩
    obtain ⟨⟨_, d1, d2, d3, d4, d5, d6⟩, ⟨d7, d8, d9, d10, d11, d12, d13⟩, hl1⟩ := rec_cells (hO1.out _ hb)
    replace hb := Lib.hid (hB1.out _ _ hb)
    go_wp2_with fail
    refine (hC1.out _).mono ?_
    rintro e w' ⟨rfl, rfl⟩
    go_wp2_with fail
    refine (hC2.out _).mono ?_
    rintro e w' ⟨rfl, rfl⟩
    go_wp2_with fail
    refine (hC3.out _).mono ?_
    rintro e w' ⟨rfl, rfl⟩
    go_wp2
    go_ret
    exact ⟨rfl, hb.out⟩
  simp only [c3] at hC3 hr1
  simp only [Bool.true_and] at hr1
  replace hC3 := Lib.hid hC3
  by_cases c4 : key.length ≤ 255
  case neg =>
    have h4 : (255 : Int) < (((mk key).size : Nat) : Int) := by omega
    rw [show res = false by rw [hr1]; simp [c4]]
    clear hp ht hx hd hsz c4 hr1
    go_enter Tryd.func62, Tryd.ntmps62
    go_wp2_with fail
    refine (hN.out _).mono ?_
    rintro e w1 ⟨rfl, hb⟩
    obtain ⟨⟨_, d1, d2, d3, d4, d5, d6⟩, ⟨d7, d8, d9, d10, d11, d12, d13⟩, hl1⟩ := rec_cells (hO1.out _ hb)
    replace hb := Lib.hid (hB1.out _ _ hb)
    go_wp2_with fail
    refine (hC1.out _).mono ?_
    rintro e w' ⟨rfl, rfl⟩
    go_wp2_with fail
    refine (hC2.out _).mono ?_
    rintro e w' ⟨rfl, rfl⟩
    go_wp2_with fail
    refine (hC3.out _).mono ?_
    rintro e w' ⟨rfl, rfl⟩
    go_wp2
    go_ret
    exact ⟨rfl, hb.out⟩
  have h4 : ¬ (255 : Int) < (((mk key).size : Nat) : Int) := by omega
  have hr2 : res = ((decide ((⟨ok, ov, ob, os⟩ : Cl) = Cl.zero) || cellOk ⟨ok, ov, ob, os⟩) && pagesOk pages && decide (pats.length ≤ 40) && decide (txs.length ≤ 8) && decide (dirty.length ≤ 64) && pats.all patOk && txs.all txOk && dirty.all dirOk) := by rw [hr1]; simp [c4]
  clear hr1 hsz c4
  have hK := fun w => cell_any ⟨ok, ov, ob, os⟩ w
  simp only at hK
  by_cases z1 : ok = []
  case pos =>
    subst z1
    by_cases z2 : ov = []
    case neg =>
      have z2' : ov.isEmpty = false := by simpa using z2
      rw [show res = false by rw [hr2]; simp [Cl.zero, cellOk, z2]]
      rw [show cellOk ⟨[], ov, ob, os⟩ = false by simp [cellOk]] at hK
      replace hK := Lib.hid hK
      clear hp ht hx hd hr2
      go_enter Tryd.func62, Tryd.ntmps62
      go_wp2_with fail
      refine (hN.out _).mono ?_
      rintro e w1 ⟨rfl, hb⟩
      obtain ⟨⟨_, d1, d2, d3, d4, d5, d6⟩, ⟨d7, d8, d9, d10, d11, d12, d13⟩, hl1⟩ := rec_cells (hO1.out _ hb)
      have hO := hO1.out _ hb
      replace hb := Lib.hid (hB1.out _ _ hb)
      go_wp2_with fail
      refine (hC1.out _).mono ?_
      rintro e w' ⟨rfl, rfl⟩
      go_wp2_with fail
      refine (hC2.out _).mono ?_
      rintro e w' ⟨rfl, rfl⟩
      go_wp2_with fail
      refine (hC3.out _).mono ?_
      rintro e w' ⟨rfl, rfl⟩
      go_wp2_with fail
      refine (hK.out _).mono ?_
      rintro e w2 ⟨rfl, hb2⟩
      replace hO := (Chg.of_below (S := fun _ => False) hb2).heap hO id
      clear d1 d2 d3 d4 d5 d6 d7 d8 d9 d10 d11 d12 d13 hl1
      obtain ⟨⟨_, d1, d2, d3, d4, d5, d6⟩, ⟨d7, d8, d9, d10, d11, d12, d13⟩, hl1⟩ := rec_cells hO
      replace hb := Lib.hid (hb.out.trans (hb2.mono hb.out.size))
      clear hb2
      go_wp2
      go_ret
      exact ⟨rfl, hb.out⟩
    subst z2
    by_cases z3 : ob = 0
    case neg =>
      have z3' : (ob == 0) = false := by rw [beq_eq_false_iff_ne]; exact z3
      rw [show res = false by rw [hr2]; simp [Cl.zero, cellOk, z3]]
      rw [show cellOk ⟨[], [], ob, os⟩ = false by simp [cellOk]] at hK
      replace hK := Lib.hid hK
      clear hp ht hx hd hr2
      go_enter Tryd.func62, Tryd.ntmps62
      go_wp2_with fail
      refine (hN.out _).mono ?_
      rintro e w1 ⟨rfl, hb⟩
      obtain ⟨⟨_, d1, d2, d3, d4, d5, d6⟩, ⟨d7, d8, d9, d10, d11, d12, d13⟩, hl1⟩ := rec_cells (hO1.out _ hb)
      have hO := hO1.out _ hb
      replace hb := Lib.hid (hB1.out _ _ hb)
      go_wp2_with fail
      refine (hC1.out _).mono ?_
      rintro e w' ⟨rfl, rfl⟩
      go_wp2_with fail
      refine (hC2.out _).mono ?_
      rintro e w' ⟨rfl, rfl⟩
      go_wp2_with fail
      refine (hC3.out _).mono ?_
      rintro e w' ⟨rfl, rfl⟩
      go_wp2_with fail
      refine (hK.out _).mono ?_
      rintro e w2 ⟨rfl, hb2⟩
      replace hO := (Chg.of_below (S := fun _ => False) hb2).heap hO id
      clear d1 d2 d3 d4 d5 d6 d7 d8 d9 d10 d11 d12 d13 hl1
      obtain ⟨⟨_, d1, d2, d3, d4, d5, d6⟩, ⟨d7, d8, d9, d10, d11, d12, d13⟩, hl1⟩ := rec_cells hO
      replace hb := Lib.hid (hb.out.trans (hb2.mono hb.out.size))
      clear hb2
      go_wp2
      go_ret
      exact ⟨rfl, hb.out⟩
    subst z3
    by_cases z4 : os = 0
    case neg =>
      have z4' : (os == 0) = false := by rw [beq_eq_false_iff_ne]; exact z4
      rw [show res = false by rw [hr2]; simp [Cl.zero, cellOk, z4]]
      rw [show cellOk ⟨[], [], 0, os⟩ = false by simp [cellOk]] at hK
      replace hK := Lib.hid hK
      clear hp ht hx hd hr2
      go_enter Tryd.func62, Tryd.ntmps62
      go_wp2_with fail
      refine (hN.out _).mono ?_
      rintro e w1 ⟨rfl, hb⟩
      obtain ⟨⟨_, d1, d2, d3, d4, d5, d6⟩, ⟨d7, d8, d9, d10, d11, d12, d13⟩, hl1⟩ := rec_cells (hO1.out _ hb)
      have hO := hO1.out _ hb
      replace hb := Lib.hid (hB1.out _ _ hb)
      go_wp2_with fail
      refine (hC1.out _).mono ?_
      rintro e w' ⟨rfl, rfl⟩
      go_wp2_with fail
      refine (hC2.out _).mono ?_
      rintro e w' ⟨rfl, rfl⟩
      go_wp2_with fail
      refine (hC3.out _).mono ?_
      rintro e w' ⟨rfl, rfl⟩
      go_wp2_with fail
      refine (hK.out _).mono ?_
      rintro e w2 ⟨rfl, hb2⟩
      replace hO := (Chg.of_below (S := fun _ => False) hb2).heap hO id
      clear d1 d2 d3 d4 d5 d6 d7 d8 d9 d10 d11 d12 d13 hl1
      obtain ⟨⟨_, d1, d2, d3, d4, d5, d6⟩, ⟨d7, d8, d9, d10, d11, d12, d13⟩, hl1⟩ := rec_cells hO
      replace hb := Lib.hid (hb.out.trans (hb2.mono hb.out.size))
      clear hb2
      go_wp2
      go_ret
      exact ⟨rfl, hb.out⟩
    subst z4
    have hr3 : res = (pagesOk pages && decide (pats.length ≤ 40) && decide (txs.length ≤ 8) && decide (dirty.length ≤ 64) && pats.all patOk && txs.all txOk && dirty.all dirOk) := by rw [hr2]; simp [Cl.zero]
    clear hr2 hK
    have hG : ∀ x, Below w.heap.size w x → Calls Tryd.prog 85 #[vp] x fun e w' => e = .returned (.bool (pagesOk pages)) ∧ x = w' := fun x hb => pages_any vp pages x (hp.more hb)
    cases c6 : pagesOk pages
    case false =>
      simp only [c6, Bool.false_and] at hr3 hG
      subst hr3
      replace hG := Lib.hid hG
      clear hp ht hx hd
      go_enter Tryd.func62, Tryd.ntmps62
      go_wp2_with fail
      refine (hN.out _).mono ?_
      rintro e w1 ⟨rfl, hb⟩
      obtain ⟨⟨_, d1, d2, d3, d4, d5, d6⟩, ⟨d7, d8, d9, d10, d11, d12, d13⟩, hl1⟩ := rec_cells (hO1.out _ hb)
      have hO := hO1.out _ hb
      replace hb := Lib.hid (hB1.out _ _ hb)
      go_wp2_with fail
      refine (hC1.out _).mono ?_
      rintro e w' ⟨rfl, rfl⟩
      go_wp2_with fail
      refine (hC2.out _).mono ?_
      rintro e w' ⟨rfl, rfl⟩
      go_wp2_with fail
      refine (hC3.out _).mono ?_
      rintro e w' ⟨rfl, rfl⟩
      go_wp2_with fail
      refine (hG.out _ hb.out).mono ?_
      rintro e w' ⟨rfl, rfl⟩
      go_wp2
      go_ret
      exact ⟨rfl, hb.out⟩
    simp only [c6, Bool.true_and] at hr3 hG
    replace hG := Lib.hid hG
    obtain ⟨ap, cp, rfl, hp⟩ := hp
    obtain ⟨at_, ct, rfl, ht⟩ := ht
    obtain ⟨ax, cx, rfl, hx⟩ := hx
    have hd0 := hd
    obtain ⟨ad, cd, rfl, hd⟩ := hd
    by_cases c7 : (pats.length : Int) ≤ 40
    case neg =>
      have c7' : (40 : Int) < ((pats.length : Nat) : Int) := by omega
      rw [show res = false by rw [hr3]; simp only [Bool.and_eq_false_iff, decide_eq_false_iff_not]; omega]
      clear hp ht hx hd hd0 hr3 c7
      go_enter Tryd.func62, Tryd.ntmps62
      go_wp2_with fail
      refine (hN.out _).mono ?_
      rintro e w1 ⟨rfl, hb⟩
      obtain ⟨⟨_, d1, d2, d3, d4, d5, d6⟩, ⟨d7, d8, d9, d10, d11, d12, d13⟩, hl1⟩ := rec_cells (hO1.out _ hb)
      have hO := hO1.out _ hb
      replace hb := Lib.hid (hB1.out _ _ hb)
      go_wp2_with fail
      refine (hC1.out _).mono ?_
      rintro e w' ⟨rfl, rfl⟩
      go_wp2_with fail
      refine (hC2.out _).mono ?_
      rintro e w' ⟨rfl, rfl⟩
      go_wp2_with fail
      refine (hC3.out _).mono ?_
      rintro e w' ⟨rfl, rfl⟩
      go_wp2_with fail
      refine (hG.out _ hb.out).mono ?_
      rintro e w' ⟨rfl, rfl⟩
      go_wp2
      go_ret
      exact ⟨rfl, hb.out⟩
    have c7' : ¬ (40 : Int) < ((pats.length : Nat) : Int) := by omega
    by_cases c8 : (txs.length : Int) ≤ 8
    case neg =>
      have c8' : (8 : Int) < ((txs.length : Nat) : Int) := by omega
      rw [show res = false by rw [hr3]; simp only [Bool.and_eq_false_iff, decide_eq_false_iff_not]; omega]
      clear hp ht hx hd hd0 hr3 c8
      go_enter Tryd.func62, Tryd.ntmps62
      go_wp2_with fail
      refine (hN.out _).mono ?_
      rintro e w1 ⟨rfl, hb⟩
      obtain ⟨⟨_, d1, d2, d3, d4, d5, d6⟩, ⟨d7, d8, d9, d10, d11, d12, d13⟩, hl1⟩ := rec_cells (hO1.out _ hb)
      have hO := hO1.out _ hb
      replace hb := Lib.hid (hB1.out _ _ hb)
      go_wp2_with fail
      refine (hC1.out _).mono ?_
      rintro e w' ⟨rfl, rfl⟩
      go_wp2_with fail
      refine (hC2.out _).mono ?_
      rintro e w' ⟨rfl, rfl⟩
      go_wp2_with fail
      refine (hC3.out _).mono ?_
      rintro e w' ⟨rfl, rfl⟩
      go_wp2_with fail
      refine (hG.out _ hb.out).mono ?_
      rintro e w' ⟨rfl, rfl⟩
      go_wp2
      go_ret
      exact ⟨rfl, hb.out⟩
    have c8' : ¬ (8 : Int) < ((txs.length : Nat) : Int) := by omega
    by_cases c9 : (dirty.length : Int) ≤ 64
    case neg =>
      have c9' : (64 : Int) < ((dirty.length : Nat) : Int) := by omega
      rw [show res = false by rw [hr3]; simp only [Bool.and_eq_false_iff, decide_eq_false_iff_not]; omega]
      clear hp ht hx hd hd0 hr3 c9
      go_enter Tryd.func62, Tryd.ntmps62
      go_wp2_with fail
      refine (hN.out _).mono ?_
      rintro e w1 ⟨rfl, hb⟩
      obtain ⟨⟨_, d1, d2, d3, d4, d5, d6⟩, ⟨d7, d8, d9, d10, d11, d12, d13⟩, hl1⟩ := rec_cells (hO1.out _ hb)
      have hO := hO1.out _ hb
      replace hb := Lib.hid (hB1.out _ _ hb)
      go_wp2_with fail
      refine (hC1.out _).mono ?_
      rintro e w' ⟨rfl, rfl⟩
      go_wp2_with fail
      refine (hC2.out _).mono ?_
      rintro e w' ⟨rfl, rfl⟩
      go_wp2_with fail
      refine (hC3.out _).mono ?_
      rintro e w' ⟨rfl, rfl⟩
      go_wp2_with fail
      refine (hG.out _ hb.out).mono ?_
      rintro e w' ⟨rfl, rfl⟩
      go_wp2
      go_ret
      exact ⟨rfl, hb.out⟩
    have c9' : ¬ (64 : Int) < ((dirty.length : Nat) : Int) := by omega
    have hr4 : res = (pats.all patOk && txs.all txOk && dirty.all dirOk) := by
      rw [hr3]
      rw [show decide (pats.length ≤ 40) = true by simp; omega, show decide (txs.length ≤ 8) = true by simp; omega, show decide (dirty.length ≤ 64) = true by simp; omega]
      simp
    replace hr4 := Lib.hid hr4
    replace ht := Lib.hid ht
    replace hx := Lib.hid hx
    replace hd0 := Lib.hid hd0
    clear hp hd hr3
    go_enter Tryd.func62, Tryd.ntmps62
    go_wp2_with fail
    refine (hN.out _).mono ?_
    rintro e w1 ⟨rfl, hb⟩
    obtain ⟨⟨_, d1, d2, d3, d4, d5, d6⟩, ⟨d7, d8, d9, d10, d11, d12, d13⟩, hl1⟩ := rec_cells (hO1.out _ hb)
    have hO := hO1.out _ hb
    replace hb := Lib.hid (hB1.out _ _ hb)
    go_wp2_with fail
    refine (hC1.out _).mono ?_
    rintro e w' ⟨rfl, rfl⟩
    go_wp2_with fail
    refine (hC2.out _).mono ?_
    rintro e w' ⟨rfl, rfl⟩
    go_wp2_with fail
    refine (hC3.out _).mono ?_
    rintro e w' ⟨rfl, rfl⟩
    go_wp2_with fail
    refine (hG.out _ hb.out).mono ?_
    rintro e w' ⟨rfl, rfl⟩
    replace hO := Lib.hid hO
    clear hN hC1 hC2 hC3 hG
    go_wp2
    replace d12 : _ ∧ _ ∧ _ := ⟨d12, d13, hl1⟩
    clear d1 d2 d3 d4 d5 d6 d7 d8 d9 d10 d11 d13 hl1 hO hO1 hB1
    replace d12 := Lib.hid d12
    go_loopg [72] pats.length (fun g i wr => ∃ k : Nat, g + k = pats.length ∧ i = .int .i64 k ∧ Aside ((∀ j (hj : j < k) (hl : j < pats.length), patOk pats[j] = true) ∧ Below w.heap.size w wr ∧ wr.cell? ⟨w.heap.size, 12, none⟩ = some (.slice ax txs.length cx) ∧ wr.cell? ⟨w.heap.size, 13, none⟩ = some (.slice ad dirty.length cd) ∧ w.heap.size < wr.heap.size))
    case atStart => exact ⟨0, rfl, rfl, fun j hj => by omega, hb.out, d12.out.1, d12.out.2.1, d12.out.2.2⟩
    case round =>
      obtain ⟨k, hk, rfl, hI⟩ := hrel
      obtain ⟨i1, i2, i3, i4, i5⟩ := hI.out
      clear hI hb d12
      by_cases hlt : k < pats.length
      · obtain ⟨b, o, rfl, e0, e1, e2⟩ := ht.out k hlt
        replace e0 := cell_more i2 e0
        replace e1 := cell_more i2 e1
        replace e2 := cell_more i2 e2
        have hbl := World.block_lt_of_cell? wr _ e0
        have C := fun x => pat_any pats[k] x
        obtain ⟨⟨x, y, z⟩, hpk⟩ : ∃ x, x = pats[k] := ⟨_, rfl⟩
        rw [← hpk] at e0 e1 e2 C
        simp only at e0 e1 e2 C
        cases hs : patOk ⟨x, y, z⟩ with
        | true =>
          simp only [hs] at C
          replace C := Lib.hid C
          replace i1 := Lib.hid i1
          replace i2 := Lib.hid i2
          replace i3 := Lib.hid (And.intro i3 i4)
          replace hpk := Lib.hid hpk
          replace hs := Lib.hid hs
          clear i4
          go_wp2_with fail
          refine (C.out _).mono ?_
          rintro e w3 ⟨rfl, hb3⟩
          have hb4 := Lib.hid (((Below.refl _ _).alloc (Nat.le_refl _) _).trans (hb3.mono (by simp)))
          clear hb3
          go_wp2
          go_roundg (pats.length - (k + 1))
          case rel =>
            refine ⟨k + 1, by omega, by go_num, fun j hj hl => ?_, i2.out.trans (hb4.out.mono i2.out.size), cell_more hb4.out i3.out.1, cell_more hb4.out i3.out.2, Nat.lt_of_lt_of_le i5 hb4.out.size⟩
            by_cases e : j = k
            · subst e; rw [← hpk.out]; exact hs.out
            · exact i1.out j (by omega) hl
          case measure => omega
        | false =>
          simp only [hs] at C
          have hres : res = false := by rw [hr4.out, all_split patOk pats k hlt (fun j hj => i1 j hj (by omega)) (by rw [← hpk]; exact hs)]; rfl
          subst hres
          replace C := Lib.hid C
          replace i2 := Lib.hid i2
          replace hpk := Lib.hid hpk
          clear i1 i3 i4 hs
          go_wp2_with fail
          refine (C.out _).mono ?_
          rintro e w3 ⟨rfl, hb3⟩
          have hb4 := Lib.hid (((Below.refl _ _).alloc (Nat.le_refl _) _).trans (hb3.mono (by simp)))
          clear hb3
          go_wp2
          go_ret
          exact ⟨rfl, i2.out.trans (hb4.out.mono i2.out.size)⟩
      · obtain rfl : k = pats.length := by omega
        have hr5 : res = (txs.all txOk && dirty.all dirOk) := by rw [hr4.out, all_done patOk pats (fun j hj => i1 j hj hj), Bool.true_and]
        replace hr5 := Lib.hid hr5
        replace i2 := Lib.hid i2
        clear i1 hr4 ht
        go_wp2
        replace i3 := Lib.hid (And.intro i3 i4)
        clear i4
        go_loopg [83] txs.length (fun g i wq => ∃ k : Nat, g + k = txs.length ∧ i = .int .i64 k ∧ Aside ((∀ j (hj : j < k) (hl : j < txs.length), txOk txs[j] = true) ∧ Below w.heap.size w wq ∧ wq.cell? ⟨w.heap.size, 13, none⟩ = some (.slice ad dirty.length cd) ∧ w.heap.size < wq.heap.size))
        case atStart => exact ⟨0, rfl, rfl, fun j hj => by omega, i2.out, i3.out.2, i5⟩
        case round =>
          obtain ⟨k, hk2, rfl, hI⟩ := hrel
          obtain ⟨j1, j2, j4, j5⟩ := hI.out
          clear hI i2 i3 i5
          by_cases hlt : k < txs.length
          · obtain ⟨b, o, u, rfl, e0, e1, e2, e3, eI⟩ := hx.out k hlt
            replace e0 := cell_more j2 e0
            replace e1 := cell_more j2 e1
            replace e2 := cell_more j2 e2
            replace e3 := cell_more j2 e3
            have hbl := World.block_lt_of_cell? wr _ e0
            obtain ⟨⟨x, y, z, pg⟩, hpk⟩ : ∃ x, x = txs[k] := ⟨_, rfl⟩
            rw [← hpk] at e0 e1 e2 eI
            simp only at e0 e1 e2 eI
            have hb4 : ∀ o, Below wr.heap.size wr (wr.alloc o) := fun o => (Below.refl _ _).alloc (Nat.le_refl _) o
            have C1 := fun w => in_short x w
            have C2 := fun w => in_long y w
            have C3 := fun o => pages_any u pg (wr.alloc o) (eI.more (j2.trans ((hb4 o).mono j2.size)))
            have hsz2 : txOk ⟨x, y, z, pg⟩ = (short x && long y && pagesOk pg) := rfl
            obtain ⟨ua, uc, rfl, _⟩ := eI
            replace j2 := Lib.hid j2
            replace hb4 := Lib.hid hb4
            replace C3 := Lib.hid C3
            have hbad : txOk ⟨x, y, z, pg⟩ = false → res = false := fun h => by rw [hr5.out, all_split txOk txs k hlt (fun j hj => j1 j hj (by omega)) (by rw [← hpk]; exact h)]; rfl
            replace hbad := Lib.hid hbad
            replace j1 := Lib.hid j1
            replace hpk := Lib.hid hpk
            cases t1 : short x with
            | false =>
              have hres : res = false := hbad.out (by rw [hsz2, t1]; rfl)
              subst hres
              simp only [t1] at C1
              replace C1 := Lib.hid C1
              clear hsz2 hbad j1 C2 C3
              go_wp2_with fail
              refine (C1.out _).mono ?_
              rintro e w' ⟨rfl, rfl⟩
              go_wp2
              go_ret
              exact ⟨rfl, j2.out.trans ((hb4.out _).mono j2.out.size)⟩
            | true =>
              simp only [t1] at C1
              replace C1 := Lib.hid C1
              cases t2 : long y with
              | false =>
                have hres : res = false := hbad.out (by rw [hsz2, t1, t2]; rfl)
                subst hres
                simp only [t2] at C2
                replace C2 := Lib.hid C2
                clear hsz2 hbad j1 C3
                go_wp2_with fail
                refine (C1.out _).mono ?_
                rintro e w' ⟨rfl, rfl⟩
                go_wp2_with fail
                refine (C2.out _).mono ?_
                rintro e w' ⟨rfl, rfl⟩
                go_wp2
                go_ret
                exact ⟨rfl, j2.out.trans ((hb4.out _).mono j2.out.size)⟩
              | true =>
                simp only [t2] at C2
                replace C2 := Lib.hid C2
                cases t3 : pagesOk pg with
                | false =>
                  have hres : res = false := hbad.out (by rw [hsz2, t1, t2, t3]; rfl)
                  subst hres
                  simp only [t3] at C3
                  clear hsz2 hbad j1
                  go_wp2_with fail
                  refine (C1.out _).mono ?_
                  rintro e w' ⟨rfl, rfl⟩
                  go_wp2_with fail
                  refine (C2.out _).mono ?_
                  rintro e w' ⟨rfl, rfl⟩
                  go_wp2_with fail
                  refine (C3.out _).mono ?_
                  rintro e w' ⟨rfl, rfl⟩
                  go_wp2
                  go_ret
                  exact ⟨rfl, j2.out.trans ((hb4.out _).mono j2.out.size)⟩
                | true =>
                  have hok : txOk ⟨x, y, z, pg⟩ = true := by rw [hsz2, t1, t2, t3]; rfl
                  replace hok := Lib.hid hok
                  replace j4 := Lib.hid j4
                  simp only [t3] at C3
                  clear hsz2 hbad
                  go_wp2_with fail
                  refine (C1.out _).mono ?_
                  rintro e w' ⟨rfl, rfl⟩
                  go_wp2_with fail
                  refine (C2.out _).mono ?_
                  rintro e w' ⟨rfl, rfl⟩
                  go_wp2_with fail
                  refine (C3.out _).mono ?_
                  rintro e w' ⟨rfl, rfl⟩
                  go_wp2
                  go_roundg (txs.length - (k + 1))
                  case rel =>
                    refine ⟨k + 1, by omega, by go_num, fun j hj hl => ?_, j2.out.trans ((hb4.out _).mono j2.out.size), cell_more (hb4.out _) j4.out, Nat.lt_of_lt_of_le j5 (hb4.out _).size⟩
                    by_cases e : j = k
                    · subst e; rw [← hpk.out]; exact hok.out
                    · exact j1.out j (by omega) hl
                  case measure => omega
          · obtain rfl : k = txs.length := by omega
            have hr6 : res = dirty.all dirOk := by rw [hr5.out, all_done txOk txs (fun j hj => j1 j hj hj), Bool.true_and]
            have C := cod_any (.slice ad dirty.length cd) dirty wr (hd0.out.more j2) (by omega)
            rw [← hr6] at C
            replace C := Lib.hid C
            replace j2 := Lib.hid j2
            clear j1 hr5 hx hr6 hd0
            go_wp2_with fail
            refine C.out.mono ?_
            rintro e w3 ⟨rfl, hb3⟩
            replace hb3 := Lib.hid hb3
            go_wp2
            go_ret
            exact ⟨rfl, j2.out.trans (hb3.out.mono j2.out.size)⟩
  have z1' : ok.isEmpty = false := by simpa using z1
  have hz : decide ((⟨ok, ov, ob, os⟩ : Cl) = Cl.zero) = false := by simp [Cl.zero, z1]
  rw [hz, Bool.false_or] at hr2
  cases c5 : cellOk ⟨ok, ov, ob, os⟩
  case false =>
    simp only [c5, Bool.false_and] at hr2 hK
    subst hr2
    replace hK := Lib.hid hK
    clear hp ht hx hd
    go_enter Tryd.func62, Tryd.ntmps62
    go_wp2_with fail
    refine (hN.out _).mono ?_
    rintro e w1 ⟨rfl, hb⟩
    obtain ⟨⟨_, d1, d2, d3, d4, d5, d6⟩, ⟨d7, d8, d9, d10, d11, d12, d13⟩, hl1⟩ := rec_cells (hO1.out _ hb)
    have hO := hO1.out _ hb
    replace hb := Lib.hid (hB1.out _ _ hb)
    go_wp2_with fail
    refine (hC1.out _).mono ?_
    rintro e w' ⟨rfl, rfl⟩
    go_wp2_with fail
    refine (hC2.out _).mono ?_
    rintro e w' ⟨rfl, rfl⟩
    go_wp2_with fail
    refine (hC3.out _).mono ?_
    rintro e w' ⟨rfl, rfl⟩
    go_wp2_with fail
    refine (hK.out _).mono ?_
    rintro e w2 ⟨rfl, hb2⟩
    replace hO := (Chg.of_below (S := fun _ => False) hb2).heap hO id
    clear d1 d2 d3 d4 d5 d6 d7 d8 d9 d10 d11 d12 d13 hl1
    obtain ⟨⟨_, d1, d2, d3, d4, d5, d6⟩, ⟨d7, d8, d9, d10, d11, d12, d13⟩, hl1⟩ := rec_cells hO
    replace hb := Lib.hid (hb.out.trans (hb2.mono hb.out.size))
    clear hb2
    go_wp2
    go_ret
    exact ⟨rfl, hb.out⟩
  have hr3 : res = (pagesOk pages && decide (pats.length ≤ 40) && decide (txs.length ≤ 8) && decide (dirty.length ≤ 64) && pats.all patOk && txs.all txOk && dirty.all dirOk) := by rw [hr2, c5]; simp
  simp only [c5] at hK
  replace hK := Lib.hid hK
  clear hr2
  have hG : ∀ x, Below w.heap.size w x → Calls Tryd.prog 85 #[vp] x fun e w' => e = .returned (.bool (pagesOk pages)) ∧ x = w' := fun x hb => pages_any vp pages x (hp.more hb)
  cases c6 : pagesOk pages
  case false =>
    simp only [c6, Bool.false_and] at hr3 hG
    subst hr3
    replace hG := Lib.hid hG
    clear hp ht hx hd
    go_enter Tryd.func62, Tryd.ntmps62
    go_wp2_with fail
    refine (hN.out _).mono ?_
    rintro e w1 ⟨rfl, hb⟩
    obtain ⟨⟨_, d1, d2, d3, d4, d5, d6⟩, ⟨d7, d8, d9, d10, d11, d12, d13⟩, hl1⟩ := rec_cells (hO1.out _ hb)
    have hO := hO1.out _ hb
    replace hb := Lib.hid (hB1.out _ _ hb)
    go_wp2_with fail
    refine (hC1.out _).mono ?_
    rintro e w' ⟨rfl, rfl⟩
    go_wp2_with fail
    refine (hC2.out _).mono ?_
    rintro e w' ⟨rfl, rfl⟩
    go_wp2_with fail
    refine (hC3.out _).mono ?_
    rintro e w' ⟨rfl, rfl⟩
    go_wp2_with fail
    refine (hK.out _).mono ?_
    rintro e w2 ⟨rfl, hb2⟩
    replace hO := (Chg.of_below (S := fun _ => False) hb2).heap hO id
    clear d1 d2 d3 d4 d5 d6 d7 d8 d9 d10 d11 d12 d13 hl1
    obtain ⟨⟨_, d1, d2, d3, d4, d5, d6⟩, ⟨d7, d8, d9, d10, d11, d12, d13⟩, hl1⟩ := rec_cells hO
    replace hb := Lib.hid (hb.out.trans (hb2.mono hb.out.size))
    clear hb2
    go_wp2_with fail
    refine (hG.out _ hb.out).mono ?_
    rintro e w' ⟨rfl, rfl⟩
    go_wp2
    go_ret
    exact ⟨rfl, hb.out⟩
  simp only [c6, Bool.true_and] at hr3 hG
  replace hG := Lib.hid hG
  obtain ⟨ap, cp, rfl, hp⟩ := hp
  obtain ⟨at_, ct, rfl, ht⟩ := ht
  obtain ⟨ax, cx, rfl, hx⟩ := hx
  have hd0 := hd
  obtain ⟨ad, cd, rfl, hd⟩ := hd
  by_cases c7 : (pats.length : Int) ≤ 40
  case neg =>
    have c7' : (40 : Int) < ((pats.length : Nat) : Int) := by omega
    rw [show res = false by rw [hr3]; simp only [Bool.and_eq_false_iff, decide_eq_false_iff_not]; omega]
    clear hp ht hx hd hd0 hr3 c7
    go_enter Tryd.func62, Tryd.ntmps62
    go_wp2_with fail
    refine (hN.out _).mono ?_
    rintro e w1 ⟨rfl, hb⟩
    obtain ⟨⟨_, d1, d2, d3, d4, d5, d6⟩, ⟨d7, d8, d9, d10, d11, d12, d13⟩, hl1⟩ := rec_cells (hO1.out _ hb)
    have hO := hO1.out _ hb
    replace hb := Lib.hid (hB1.out _ _ hb)
    go_wp2_with fail
    refine (hC1.out _).mono ?_
    rintro e w' ⟨rfl, rfl⟩
    go_wp2_with fail
    refine (hC2.out _).mono ?_
    rintro e w' ⟨rfl, rfl⟩
    go_wp2_with fail
    refine (hC3.out _).mono ?_
    rintro e w' ⟨rfl, rfl⟩
    go_wp2_with fail
    refine (hK.out _).mono ?_
    rintro e w2 ⟨rfl, hb2⟩
    replace hO := (Chg.of_below (S := fun _ => False) hb2).heap hO id
    clear d1 d2 d3 d4 d5 d6 d7 d8 d9 d10 d11 d12 d13 hl1
    obtain ⟨⟨_, d1, d2, d3, d4, d5, d6⟩, ⟨d7, d8, d9, d10, d11, d12, d13⟩, hl1⟩ := rec_cells hO
    replace hb := Lib.hid (hb.out.trans (hb2.mono hb.out.size))
    clear hb2
    go_wp2_with fail
    refine (hG.out _ hb.out).mono ?_
    rintro e w' ⟨rfl, rfl⟩
    go_wp2
    go_ret
    exact ⟨rfl, hb.out⟩
  have c7' : ¬ (40 : Int) < ((pats.length : Nat) : Int) := by omega
  by_cases c8 : (txs.length : Int) ≤ 8
  case neg =>
    have c8' : (8 : Int) < ((txs.length : Nat) : Int) := by omega
    rw [show res = false by rw [hr3]; simp only [Bool.and_eq_false_iff, decide_eq_false_iff_not]; omega]
    clear hp ht hx hd hd0 hr3 c8
    go_enter Tryd.func62, Tryd.ntmps62
    go_wp2_with fail
    refine (hN.out _).mono ?_
    rintro e w1 ⟨rfl, hb⟩
    obtain ⟨⟨_, d1, d2, d3, d4, d5, d6⟩, ⟨d7, d8, d9, d10, d11, d12, d13⟩, hl1⟩ := rec_cells (hO1.out _ hb)
    have hO := hO1.out _ hb
    replace hb := Lib.hid (hB1.out _ _ hb)
    go_wp2_with fail
    refine (hC1.out _).mono ?_
    rintro e w' ⟨rfl, rfl⟩
    go_wp2_with fail
    refine (hC2.out _).mono ?_
    rintro e w' ⟨rfl, rfl⟩
    go_wp2_with fail
    refine (hC3.out _).mono ?_
    rintro e w' ⟨rfl, rfl⟩
    go_wp2_with fail
    refine (hK.out _).mono ?_
    rintro e w2 ⟨rfl, hb2⟩
    replace hO := (Chg.of_below (S := fun _ => False) hb2).heap hO id
    clear d1 d2 d3 d4 d5 d6 d7 d8 d9 d10 d11 d12 d13 hl1
    obtain ⟨⟨_, d1, d2, d3, d4, d5, d6⟩, ⟨d7, d8, d9, d10, d11, d12, d13⟩, hl1⟩ := rec_cells hO
    replace hb := Lib.hid (hb.out.trans (hb2.mono hb.out.size))
    clear hb2
    go_wp2_with fail
    refine (hG.out _ hb.out).mono ?_
    rintro e w' ⟨rfl, rfl⟩
    go_wp2
    go_ret
    exact ⟨rfl, hb.out⟩
  have c8' : ¬ (8 : Int) < ((txs.length : Nat) : Int) := by omega
  by_cases c9 : (dirty.length : Int) ≤ 64
  case neg =>
    have c9' : (64 : Int) < ((dirty.length : Nat) : Int) := by omega
    rw [show res = false by rw [hr3]; simp only [Bool.and_eq_false_iff, decide_eq_false_iff_not]; omega]
    clear hp ht hx hd hd0 hr3 c9
    go_enter Tryd.func62, Tryd.ntmps62
    go_wp2_with fail
    refine (hN.out _).mono ?_
    rintro e w1 ⟨rfl, hb⟩
    obtain ⟨⟨_, d1, d2, d3, d4, d5, d6⟩, ⟨d7, d8, d9, d10, d11, d12, d13⟩, hl1⟩ := rec_cells (hO1.out _ hb)
    have hO := hO1.out _ hb
    replace hb := Lib.hid (hB1.out _ _ hb)
    go_wp2_with fail
    refine (hC1.out _).mono ?_
    rintro e w' ⟨rfl, rfl⟩
    go_wp2_with fail
    refine (hC2.out _).mono ?_
    rintro e w' ⟨rfl, rfl⟩
    go_wp2_with fail
    refine (hC3.out _).mono ?_
    rintro e w' ⟨rfl, rfl⟩
    go_wp2_with fail
    refine (hK.out _).mono ?_
    rintro e w2 ⟨rfl, hb2⟩
    replace hO := (Chg.of_below (S := fun _ => False) hb2).heap hO id
    clear d1 d2 d3 d4 d5 d6 d7 d8 d9 d10 d11 d12 d13 hl1
    obtain ⟨⟨_, d1, d2, d3, d4, d5, d6⟩, ⟨d7, d8, d9, d10, d11, d12, d13⟩, hl1⟩ := rec_cells hO
    replace hb := Lib.hid (hb.out.trans (hb2.mono hb.out.size))
    clear hb2
    go_wp2_with fail
    refine (hG.out _ hb.out).mono ?_
    rintro e w' ⟨rfl, rfl⟩
    go_wp2
    go_ret
    exact ⟨rfl, hb.out⟩
  have c9' : ¬ (64 : Int) < ((dirty.length : Nat) : Int) := by omega
  have hr4 : res = (pats.all patOk && txs.all txOk && dirty.all dirOk) := by
    rw [hr3]
    rw [show decide (pats.length ≤ 40) = true by simp; omega, show decide (txs.length ≤ 8) = true by simp; omega, show decide (dirty.length ≤ 64) = true by simp; omega]
    simp
  replace hr4 := Lib.hid hr4
  replace ht := Lib.hid ht
  replace hx := Lib.hid hx
  replace hd0 := Lib.hid hd0
  clear hp hd hr3
  go_enter Tryd.func62, Tryd.ntmps62
  go_wp2_with fail
  refine (hN.out _).mono ?_
  rintro e w1 ⟨rfl, hb⟩
  obtain ⟨⟨_, d1, d2, d3, d4, d5, d6⟩, ⟨d7, d8, d9, d10, d11, d12, d13⟩, hl1⟩ := rec_cells (hO1.out _ hb)
  have hO := hO1.out _ hb
  replace hb := Lib.hid (hB1.out _ _ hb)
  go_wp2_with fail
  refine (hC1.out _).mono ?_
  rintro e w' ⟨rfl, rfl⟩
  go_wp2_with fail
  refine (hC2.out _).mono ?_
  rintro e w' ⟨rfl, rfl⟩
  go_wp2_with fail
  refine (hC3.out _).mono ?_
  rintro e w' ⟨rfl, rfl⟩
  go_wp2_with fail
  refine (hK.out _).mono ?_
  rintro e w2 ⟨rfl, hb2⟩
  replace hO := (Chg.of_below (S := fun _ => False) hb2).heap hO id
  clear d1 d2 d3 d4 d5 d6 d7 d8 d9 d10 d11 d12 d13 hl1
  obtain ⟨⟨_, d1, d2, d3, d4, d5, d6⟩, ⟨d7, d8, d9, d10, d11, d12, d13⟩, hl1⟩ := rec_cells hO
  replace hb := Lib.hid (hb.out.trans (hb2.mono hb.out.size))
  clear hb2
  go_wp2_with fail
  refine (hG.out _ hb.out).mono ?_
  rintro e w' ⟨rfl, rfl⟩
  replace hO := Lib.hid hO
  clear hN hC1 hC2 hC3 hG
  clear hK
  go_wp2
  replace d12 : _ ∧ _ ∧ _ := ⟨d12, d13, hl1⟩
  clear d1 d2 d3 d4 d5 d6 d7 d8 d9 d10 d11 d13 hl1 hO hO1 hB1
  replace d12 := Lib.hid d12
  go_loopg [72] pats.length (fun g i wr => ∃ k : Nat, g + k = pats.length ∧ i = .int .i64 k ∧ Aside ((∀ j (hj : j < k) (hl : j < pats.length), patOk pats[j] = true) ∧ Below w.heap.size w wr ∧ wr.cell? ⟨w.heap.size, 12, none⟩ = some (.slice ax txs.length cx) ∧ wr.cell? ⟨w.heap.size, 13, none⟩ = some (.slice ad dirty.length cd) ∧ w.heap.size < wr.heap.size))
  case atStart => exact ⟨0, rfl, rfl, fun j hj => by omega, hb.out, d12.out.1, d12.out.2.1, d12.out.2.2⟩
  case round =>
    obtain ⟨k, hk, rfl, hI⟩ := hrel
    obtain ⟨i1, i2, i3, i4, i5⟩ := hI.out
    clear hI hb d12
    by_cases hlt : k < pats.length
    · obtain ⟨b, o, rfl, e0, e1, e2⟩ := ht.out k hlt
      replace e0 := cell_more i2 e0
      replace e1 := cell_more i2 e1
      replace e2 := cell_more i2 e2
      have hbl := World.block_lt_of_cell? wr _ e0
      have C := fun x => pat_any pats[k] x
      obtain ⟨⟨x, y, z⟩, hpk⟩ : ∃ x, x = pats[k] := ⟨_, rfl⟩
      rw [← hpk] at e0 e1 e2 C
      simp only at e0 e1 e2 C
      cases hs : patOk ⟨x, y, z⟩ with
      | true =>
        simp only [hs] at C
        replace C := Lib.hid C
        replace i1 := Lib.hid i1
        replace i2 := Lib.hid i2
        replace i3 := Lib.hid (And.intro i3 i4)
        replace hpk := Lib.hid hpk
        replace hs := Lib.hid hs
        clear i4
        go_wp2_with fail
        refine (C.out _).mono ?_
        rintro e w3 ⟨rfl, hb3⟩
        have hb4 := Lib.hid (((Below.refl _ _).alloc (Nat.le_refl _) _).trans (hb3.mono (by simp)))
        clear hb3
        go_wp2
        go_roundg (pats.length - (k + 1))
        case rel =>
          refine ⟨k + 1, by omega, by go_num, fun j hj hl => ?_, i2.out.trans (hb4.out.mono i2.out.size), cell_more hb4.out i3.out.1, cell_more hb4.out i3.out.2, Nat.lt_of_lt_of_le i5 hb4.out.size⟩
          by_cases e : j = k
          · subst e; rw [← hpk.out]; exact hs.out
          · exact i1.out j (by omega) hl
        case measure => omega
      | false =>
        simp only [hs] at C
        have hres : res = false := by rw [hr4.out, all_split patOk pats k hlt (fun j hj => i1 j hj (by omega)) (by rw [← hpk]; exact hs)]; rfl
        subst hres
        replace C := Lib.hid C
        replace i2 := Lib.hid i2
        replace hpk := Lib.hid hpk
        clear i1 i3 i4 hs
        go_wp2_with fail
        refine (C.out _).mono ?_
        rintro e w3 ⟨rfl, hb3⟩
        have hb4 := Lib.hid (((Below.refl _ _).alloc (Nat.le_refl _) _).trans (hb3.mono (by simp)))
        clear hb3
        go_wp2
        go_ret
        exact ⟨rfl, i2.out.trans (hb4.out.mono i2.out.size)⟩
    · obtain rfl : k = pats.length := by omega
      have hr5 : res = (txs.all txOk && dirty.all dirOk) := by rw [hr4.out, all_done patOk pats (fun j hj => i1 j hj hj), Bool.true_and]
      replace hr5 := Lib.hid hr5
      replace i2 := Lib.hid i2
      clear i1 hr4 ht
      go_wp2
      replace i3 := Lib.hid (And.intro i3 i4)
      clear i4
      go_loopg [83] txs.length (fun g i wq => ∃ k : Nat, g + k = txs.length ∧ i = .int .i64 k ∧ Aside ((∀ j (hj : j < k) (hl : j < txs.length), txOk txs[j] = true) ∧ Below w.heap.size w wq ∧ wq.cell? ⟨w.heap.size, 13, none⟩ = some (.slice ad dirty.length cd) ∧ w.heap.size < wq.heap.size))
      case atStart => exact ⟨0, rfl, rfl, fun j hj => by omega, i2.out, i3.out.2, i5⟩
      case round =>
        obtain ⟨k, hk2, rfl, hI⟩ := hrel
        obtain ⟨j1, j2, j4, j5⟩ := hI.out
        clear hI i2 i3 i5
        by_cases hlt : k < txs.length
        · obtain ⟨b, o, u, rfl, e0, e1, e2, e3, eI⟩ := hx.out k hlt
          replace e0 := cell_more j2 e0
          replace e1 := cell_more j2 e1
          replace e2 := cell_more j2 e2
          replace e3 := cell_more j2 e3
          have hbl := World.block_lt_of_cell? wr _ e0
          obtain ⟨⟨x, y, z, pg⟩, hpk⟩ : ∃ x, x = txs[k] := ⟨_, rfl⟩
          rw [← hpk] at e0 e1 e2 eI
          simp only at e0 e1 e2 eI
          have hb4 : ∀ o, Below wr.heap.size wr (wr.alloc o) := fun o => (Below.refl _ _).alloc (Nat.le_refl _) o
          have C1 := fun w => in_short x w
          have C2 := fun w => in_long y w
          have C3 := fun o => pages_any u pg (wr.alloc o) (eI.more (j2.trans ((hb4 o).mono j2.size)))
          have hsz2 : txOk ⟨x, y, z, pg⟩ = (short x && long y && pagesOk pg) := rfl
          obtain ⟨ua, uc, rfl, _⟩ := eI
          replace j2 := Lib.hid j2
          replace hb4 := Lib.hid hb4
          replace C3 := Lib.hid C3
          have hbad : txOk ⟨x, y, z, pg⟩ = false → res = false := fun h => by rw [hr5.out, all_split txOk txs k hlt (fun j hj => j1 j hj (by omega)) (by rw [← hpk]; exact h)]; rfl
          replace hbad := Lib.hid hbad
          replace j1 := Lib.hid j1
          replace hpk := Lib.hid hpk
          cases t1 : short x with
          | false =>
            have hres : res = false := hbad.out (by rw [hsz2, t1]; rfl)
            subst hres
            simp only [t1] at C1
            replace C1 := Lib.hid C1
            clear hsz2 hbad j1 C2 C3
            go_wp2_with fail
            refine (C1.out _).mono ?_
            rintro e w' ⟨rfl, rfl⟩
            go_wp2
            go_ret
            exact ⟨rfl, j2.out.trans ((hb4.out _).mono j2.out.size)⟩
          | true =>
            simp only [t1] at C1
            replace C1 := Lib.hid C1
            cases t2 : long y with
            | false =>
              have hres : res = false := hbad.out (by rw [hsz2, t1, t2]; rfl)
              subst hres
              simp only [t2] at C2
              replace C2 := Lib.hid C2
              clear hsz2 hbad j1 C3
              go_wp2_with fail
              refine (C1.out _).mono ?_
              rintro e w' ⟨rfl, rfl⟩
              go_wp2_with fail
              refine (C2.out _).mono ?_
              rintro e w' ⟨rfl, rfl⟩
              go_wp2
              go_ret
              exact ⟨rfl, j2.out.trans ((hb4.out _).mono j2.out.size)⟩
            | true =>
              simp only [t2] at C2
              replace C2 := Lib.hid C2
              cases t3 : pagesOk pg with
              | false =>
                have hres : res = false := hbad.out (by rw [hsz2, t1, t2, t3]; rfl)
                subst hres
                simp only [t3] at C3
                clear hsz2 hbad j1
                go_wp2_with fail
                refine (C1.out _).mono ?_
                rintro e w' ⟨rfl, rfl⟩
                go_wp2_with fail
                refine (C2.out _).mono ?_
                rintro e w' ⟨rfl, rfl⟩
                go_wp2_with fail
                refine (C3.out _).mono ?_
                rintro e w' ⟨rfl, rfl⟩
                go_wp2
                go_ret
                exact ⟨rfl, j2.out.trans ((hb4.out _).mono j2.out.size)⟩
              | true =>
                have hok : txOk ⟨x, y, z, pg⟩ = true := by rw [hsz2, t1, t2, t3]; rfl
                replace hok := Lib.hid hok
                replace j4 := Lib.hid j4
                simp only [t3] at C3
                clear hsz2 hbad
                go_wp2_with fail
                refine (C1.out _).mono ?_
                rintro e w' ⟨rfl, rfl⟩
                go_wp2_with fail
                refine (C2.out _).mono ?_
                rintro e w' ⟨rfl, rfl⟩
                go_wp2_with fail
                refine (C3.out _).mono ?_
                rintro e w' ⟨rfl, rfl⟩
                go_wp2
                go_roundg (txs.length - (k + 1))
                case rel =>
                  refine ⟨k + 1, by omega, by go_num, fun j hj hl => ?_, j2.out.trans ((hb4.out _).mono j2.out.size), cell_more (hb4.out _) j4.out, Nat.lt_of_lt_of_le j5 (hb4.out _).size⟩
                  by_cases e : j = k
                  · subst e; rw [← hpk.out]; exact hok.out
                  · exact j1.out j (by omega) hl
                case measure => omega
        · obtain rfl : k = txs.length := by omega
          have hr6 : res = dirty.all dirOk := by rw [hr5.out, all_done txOk txs (fun j hj => j1 j hj hj), Bool.true_and]
          have C := cod_any (.slice ad dirty.length cd) dirty wr (hd0.out.more j2) (by omega)
          rw [← hr6] at C
          replace C := Lib.hid C
          replace j2 := Lib.hid j2
          clear j1 hr5 hx hr6 hd0
          go_wp2_with fail
          refine C.out.mono ?_
          rintro e w3 ⟨rfl, hb3⟩
          replace hb3 := Lib.hid hb3
          go_wp2
          go_ret
          exact ⟨rfl, j2.out.trans (hb3.out.mono j2.out.size)⟩
end Go.Proofs.YtofejnhnnmnfpaaDoor.Rc
