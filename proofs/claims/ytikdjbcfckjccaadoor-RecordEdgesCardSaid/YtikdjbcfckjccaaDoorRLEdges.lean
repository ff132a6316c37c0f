/- The walk of the law RecordEdges. No condition but the table of spaces. -/
import Derived.Test.YtikdjbcfckjccaaDoorRecF
namespace Go.Proofs.YtikdjbcfckjccaaDoor
open Go.RowKit
attribute [local go_sem] mk_size
theorem mk_nil : (mk [] : ByteArray) = ⟨#[]⟩ := rfl
theorem two_nums {w : World} {a : Nat} {x y : Int} (h : w.heap[a]? = some (.cells #[.int .i64 x, .int .i64 y] 3 (0, 0))) (c : Nat) : IsI w (.slice (some ⟨a, 0, none⟩) 2 c) [x, y] := by
  refine ⟨_, _, rfl, fun j hj => ?_⟩
  match j, hj with
  | 0, _ => exact ⟨_, _, rfl, cell_of h rfl⟩
  | 1, _ => exact ⟨_, _, rfl, cell_of h rfl⟩

set_option maxRecDepth 100000 in
set_option maxHeartbeats 6400000 in
theorem edges_0 (k v : Int) (w : World) (hT : Tab w) (e0 : ((wrap64 (k.tmod 5 + 5)).tmod 5 == 0) = true) : Calls Tryd.prog 7 #[.int .i64 k, .int .i64 v] w fun e w' => e = .returned (.bool true) ∧ Below w.heap.size w w' := by
  have fin : ∀ (w1 : World), Below w.heap.size w w1 → ∀ o w2, Below (w1.alloc o).heap.size (w1.alloc o) w2 → Below w.heap.size w w2 := fun w1 h o w2 h2 => (h.alloc h.size o).trans (h2.mono (by have := h.size; simp; omega))
  have fin2 : ∀ (w1 : World), Below w.heap.size w w1 → ∀ o o' w2, Below ((w1.alloc o).alloc o').heap.size ((w1.alloc o).alloc o') w2 → Below w.heap.size w w2 := fun w1 h o o' w2 h2 => ((h.alloc h.size o).alloc (by have := h.size; simp; omega) o').trans (h2.mono (by have := h.size; simp; omega))
  replace fin := Lib.hid fin
  replace fin2 := Lib.hid fin2
  by_cases n0 : 0 ≤ v
  · by_cases n1 : v ≤ 65535
    · have hok : recOk ⟨1, v, 0, 0, [], false, Cl.zero, [], [], [], []⟩ = true := by simp [recOk, short, long, pagesOk, Cl.zero]; omega
      have n2 : decide (v ≤ 65535) = true := decide_eq_true n1
      replace hok := Lib.hid hok
      go_enter Tryd.func7, Tryd.ntmps7
      go_wp2_with fail
      refine (alive_true _ hT).mono ?_
      rintro e w1 ⟨rfl, hb1⟩
      have hT1 := fun o => hT.more (hb1.alloc hb1.size o)
      replace hb1 := Lib.hid hb1
      replace hT1 := Lib.hid hT1
      go_wp2_with fail
      refine (put_any _ _ _ _ _ ⟨1, v, 0, 0, [], false, Cl.zero, [], [], [], []⟩ _ (hT1.out _) ⟨rfl, isI_nil _, isP_nil _, isT_nil _, isD_nil _⟩).mono ?_
      rintro e w2 ⟨rfl, hb2⟩
      have hO2 := (Chg.of_below (S := fun _ => False) hb2).heap (heap_alloc_new w1 _) id
      have hbE := fin.out w1 hb1.out _ _ hb2
      obtain ⟨⟨d0, d1, d2, d3, d4, d5, d6⟩, ⟨d7, d8, d9, d10, d11, d12, d13⟩, hl9⟩ := rec_cells hO2
      have hT2 := hT.more hbE
      rw [hok.out]
      rw [if_pos rfl]
      replace hbE := Lib.hid hbE
      clear hb2 hO2 hT1 hb1
      go_wp2_with fail
      refine (right_any _ _ _ _ _ ⟨1, v, 0, 0, [], false, Cl.zero, [], [], [], []⟩ _ hT2 ⟨rfl, isI_nil _, isP_nil _, isT_nil _, isD_nil _⟩).mono ?_
      rintro e w3 ⟨rfl, hb3⟩
      rw [hok.out]
      have hbF := Lib.hid (hbE.out.trans (hb3.mono hbE.out.size))
      clear hb3
      go_wp2
      go_ret
      exact ⟨rfl, hbF.out⟩
    · have hok : recOk ⟨1, v, 0, 0, [], false, Cl.zero, [], [], [], []⟩ = false := by simp [recOk, short, long, pagesOk, Cl.zero]; omega
      have n2 : decide (v ≤ 65535) = false := decide_eq_false n1
      replace hok := Lib.hid hok
      go_enter Tryd.func7, Tryd.ntmps7
      go_wp2_with fail
      refine (alive_true _ hT).mono ?_
      rintro e w1 ⟨rfl, hb1⟩
      have hT1 := fun o => hT.more (hb1.alloc hb1.size o)
      replace hb1 := Lib.hid hb1
      replace hT1 := Lib.hid hT1
      go_wp2_with fail
      refine (put_any _ _ _ _ _ ⟨1, v, 0, 0, [], false, Cl.zero, [], [], [], []⟩ _ (hT1.out _) ⟨rfl, isI_nil _, isP_nil _, isT_nil _, isD_nil _⟩).mono ?_
      rintro e w2 ⟨rfl, hb2⟩
      have hO2 := (Chg.of_below (S := fun _ => False) hb2).heap (heap_alloc_new w1 _) id
      have hbE := fin.out w1 hb1.out _ _ hb2
      obtain ⟨⟨d0, d1, d2, d3, d4, d5, d6⟩, ⟨d7, d8, d9, d10, d11, d12, d13⟩, hl9⟩ := rec_cells hO2
      have hT2 := hT.more hbE
      rw [hok.out]
      rw [if_neg (by decide), mk_nil]
      replace hbE := Lib.hid hbE
      clear hb2 hO2 hT1 hb1
      go_wp2_with fail
      refine (right_any _ _ _ _ _ ⟨1, v, 0, 0, [], false, Cl.zero, [], [], [], []⟩ _ hT2 ⟨rfl, isI_nil _, isP_nil _, isT_nil _, isD_nil _⟩).mono ?_
      rintro e w3 ⟨rfl, hb3⟩
      rw [hok.out]
      have hbF := Lib.hid (hbE.out.trans (hb3.mono hbE.out.size))
      clear hb3
      go_wp2
      go_ret
      exact ⟨rfl, hbF.out⟩
  · have hok : recOk ⟨1, v, 0, 0, [], false, Cl.zero, [], [], [], []⟩ = false := by simp [recOk, short, long, pagesOk, Cl.zero]; omega
    replace hok := Lib.hid hok
    go_enter Tryd.func7, Tryd.ntmps7
    go_wp2_with fail
    refine (alive_true _ hT).mono ?_
    rintro e w1 ⟨rfl, hb1⟩
    have hT1 := fun o => hT.more (hb1.alloc hb1.size o)
    replace hb1 := Lib.hid hb1
    replace hT1 := Lib.hid hT1
    go_wp2_with fail
    refine (put_any _ _ _ _ _ ⟨1, v, 0, 0, [], false, Cl.zero, [], [], [], []⟩ _ (hT1.out _) ⟨rfl, isI_nil _, isP_nil _, isT_nil _, isD_nil _⟩).mono ?_
    rintro e w2 ⟨rfl, hb2⟩
    have hO2 := (Chg.of_below (S := fun _ => False) hb2).heap (heap_alloc_new w1 _) id
    have hbE := fin.out w1 hb1.out _ _ hb2
    obtain ⟨⟨d0, d1, d2, d3, d4, d5, d6⟩, ⟨d7, d8, d9, d10, d11, d12, d13⟩, hl9⟩ := rec_cells hO2
    have hT2 := hT.more hbE
    rw [hok.out]
    rw [if_neg (by decide), mk_nil]
    replace hbE := Lib.hid hbE
    clear hb2 hO2 hT1 hb1
    go_wp2_with fail
    refine (right_any _ _ _ _ _ ⟨1, v, 0, 0, [], false, Cl.zero, [], [], [], []⟩ _ hT2 ⟨rfl, isI_nil _, isP_nil _, isT_nil _, isD_nil _⟩).mono ?_
    rintro e w3 ⟨rfl, hb3⟩
    rw [hok.out]
    have hbF := Lib.hid (hbE.out.trans (hb3.mono hbE.out.size))
    clear hb3
    go_wp2
    go_ret
    exact ⟨rfl, hbF.out⟩
set_option maxRecDepth 100000 in
set_option maxHeartbeats 6400000 in
theorem edges_1 (k v : Int) (w : World) (hT : Tab w) (e0 : ((wrap64 (k.tmod 5 + 5)).tmod 5 == 0) = false) (e1 : ((wrap64 (k.tmod 5 + 5)).tmod 5 == 1) = true) : Calls Tryd.prog 7 #[.int .i64 k, .int .i64 v] w fun e w' => e = .returned (.bool true) ∧ Below w.heap.size w w' := by
  have fin : ∀ (w1 : World), Below w.heap.size w w1 → ∀ o w2, Below (w1.alloc o).heap.size (w1.alloc o) w2 → Below w.heap.size w w2 := fun w1 h o w2 h2 => (h.alloc h.size o).trans (h2.mono (by have := h.size; simp; omega))
  have fin2 : ∀ (w1 : World), Below w.heap.size w w1 → ∀ o o' w2, Below ((w1.alloc o).alloc o').heap.size ((w1.alloc o).alloc o') w2 → Below w.heap.size w w2 := fun w1 h o o' w2 h2 => ((h.alloc h.size o).alloc (by have := h.size; simp; omega) o').trans (h2.mono (by have := h.size; simp; omega))
  replace fin := Lib.hid fin
  replace fin2 := Lib.hid fin2
  by_cases n0 : 0 ≤ v
  · by_cases n1 : v ≤ 4294967295
    · have hok : recOk ⟨1, 0, v, 0, [], false, Cl.zero, [], [], [], []⟩ = true := by simp [recOk, short, long, pagesOk, Cl.zero]; omega
      have n2 : decide (v ≤ 4294967295) = true := decide_eq_true n1
      replace hok := Lib.hid hok
      go_enter Tryd.func7, Tryd.ntmps7
      go_wp2_with fail
      refine (alive_true _ hT).mono ?_
      rintro e w1 ⟨rfl, hb1⟩
      have hT1 := fun o => hT.more (hb1.alloc hb1.size o)
      replace hb1 := Lib.hid hb1
      replace hT1 := Lib.hid hT1
      go_wp2_with fail
      refine (put_any _ _ _ _ _ ⟨1, 0, v, 0, [], false, Cl.zero, [], [], [], []⟩ _ (hT1.out _) ⟨rfl, isI_nil _, isP_nil _, isT_nil _, isD_nil _⟩).mono ?_
      rintro e w2 ⟨rfl, hb2⟩
      have hO2 := (Chg.of_below (S := fun _ => False) hb2).heap (heap_alloc_new w1 _) id
      have hbE := fin.out w1 hb1.out _ _ hb2
      obtain ⟨⟨d0, d1, d2, d3, d4, d5, d6⟩, ⟨d7, d8, d9, d10, d11, d12, d13⟩, hl9⟩ := rec_cells hO2
      have hT2 := hT.more hbE
      rw [hok.out]
      rw [if_pos rfl]
      replace hbE := Lib.hid hbE
      clear hb2 hO2 hT1 hb1
      go_wp2_with fail
      refine (right_any _ _ _ _ _ ⟨1, 0, v, 0, [], false, Cl.zero, [], [], [], []⟩ _ hT2 ⟨rfl, isI_nil _, isP_nil _, isT_nil _, isD_nil _⟩).mono ?_
      rintro e w3 ⟨rfl, hb3⟩
      rw [hok.out]
      have hbF := Lib.hid (hbE.out.trans (hb3.mono hbE.out.size))
      clear hb3
      go_wp2
      go_ret
      exact ⟨rfl, hbF.out⟩
    · have hok : recOk ⟨1, 0, v, 0, [], false, Cl.zero, [], [], [], []⟩ = false := by simp [recOk, short, long, pagesOk, Cl.zero]; omega
      have n2 : decide (v ≤ 4294967295) = false := decide_eq_false n1
      replace hok := Lib.hid hok
      go_enter Tryd.func7, Tryd.ntmps7
      go_wp2_with fail
      refine (alive_true _ hT).mono ?_
      rintro e w1 ⟨rfl, hb1⟩
      have hT1 := fun o => hT.more (hb1.alloc hb1.size o)
      replace hb1 := Lib.hid hb1
      replace hT1 := Lib.hid hT1
      go_wp2_with fail
      refine (put_any _ _ _ _ _ ⟨1, 0, v, 0, [], false, Cl.zero, [], [], [], []⟩ _ (hT1.out _) ⟨rfl, isI_nil _, isP_nil _, isT_nil _, isD_nil _⟩).mono ?_
      rintro e w2 ⟨rfl, hb2⟩
      have hO2 := (Chg.of_below (S := fun _ => False) hb2).heap (heap_alloc_new w1 _) id
      have hbE := fin.out w1 hb1.out _ _ hb2
      obtain ⟨⟨d0, d1, d2, d3, d4, d5, d6⟩, ⟨d7, d8, d9, d10, d11, d12, d13⟩, hl9⟩ := rec_cells hO2
      have hT2 := hT.more hbE
      rw [hok.out]
      rw [if_neg (by decide), mk_nil]
      replace hbE := Lib.hid hbE
      clear hb2 hO2 hT1 hb1
      go_wp2_with fail
      refine (right_any _ _ _ _ _ ⟨1, 0, v, 0, [], false, Cl.zero, [], [], [], []⟩ _ hT2 ⟨rfl, isI_nil _, isP_nil _, isT_nil _, isD_nil _⟩).mono ?_
      rintro e w3 ⟨rfl, hb3⟩
      rw [hok.out]
      have hbF := Lib.hid (hbE.out.trans (hb3.mono hbE.out.size))
      clear hb3
      go_wp2
      go_ret
      exact ⟨rfl, hbF.out⟩
  · have hok : recOk ⟨1, 0, v, 0, [], false, Cl.zero, [], [], [], []⟩ = false := by simp [recOk, short, long, pagesOk, Cl.zero]; omega
    replace hok := Lib.hid hok
    go_enter Tryd.func7, Tryd.ntmps7
    go_wp2_with fail
    refine (alive_true _ hT).mono ?_
    rintro e w1 ⟨rfl, hb1⟩
    have hT1 := fun o => hT.more (hb1.alloc hb1.size o)
    replace hb1 := Lib.hid hb1
    replace hT1 := Lib.hid hT1
    go_wp2_with fail
    refine (put_any _ _ _ _ _ ⟨1, 0, v, 0, [], false, Cl.zero, [], [], [], []⟩ _ (hT1.out _) ⟨rfl, isI_nil _, isP_nil _, isT_nil _, isD_nil _⟩).mono ?_
    rintro e w2 ⟨rfl, hb2⟩
    have hO2 := (Chg.of_below (S := fun _ => False) hb2).heap (heap_alloc_new w1 _) id
    have hbE := fin.out w1 hb1.out _ _ hb2
    obtain ⟨⟨d0, d1, d2, d3, d4, d5, d6⟩, ⟨d7, d8, d9, d10, d11, d12, d13⟩, hl9⟩ := rec_cells hO2
    have hT2 := hT.more hbE
    rw [hok.out]
    rw [if_neg (by decide), mk_nil]
    replace hbE := Lib.hid hbE
    clear hb2 hO2 hT1 hb1
    go_wp2_with fail
    refine (right_any _ _ _ _ _ ⟨1, 0, v, 0, [], false, Cl.zero, [], [], [], []⟩ _ hT2 ⟨rfl, isI_nil _, isP_nil _, isT_nil _, isD_nil _⟩).mono ?_
    rintro e w3 ⟨rfl, hb3⟩
    rw [hok.out]
    have hbF := Lib.hid (hbE.out.trans (hb3.mono hbE.out.size))
    clear hb3
    go_wp2
    go_ret
    exact ⟨rfl, hbF.out⟩
set_option maxRecDepth 100000 in
set_option maxHeartbeats 6400000 in
theorem edges_2 (k v : Int) (w : World) (hT : Tab w) (e0 : ((wrap64 (k.tmod 5 + 5)).tmod 5 == 0) = false) (e1 : ((wrap64 (k.tmod 5 + 5)).tmod 5 == 1) = false) (e2 : ((wrap64 (k.tmod 5 + 5)).tmod 5 == 2) = true) : Calls Tryd.prog 7 #[.int .i64 k, .int .i64 v] w fun e w' => e = .returned (.bool true) ∧ Below w.heap.size w w' := by
  have fin : ∀ (w1 : World), Below w.heap.size w w1 → ∀ o w2, Below (w1.alloc o).heap.size (w1.alloc o) w2 → Below w.heap.size w w2 := fun w1 h o w2 h2 => (h.alloc h.size o).trans (h2.mono (by have := h.size; simp; omega))
  have fin2 : ∀ (w1 : World), Below w.heap.size w w1 → ∀ o o' w2, Below ((w1.alloc o).alloc o').heap.size ((w1.alloc o).alloc o') w2 → Below w.heap.size w w2 := fun w1 h o o' w2 h2 => ((h.alloc h.size o).alloc (by have := h.size; simp; omega) o').trans (h2.mono (by have := h.size; simp; omega))
  replace fin := Lib.hid fin
  replace fin2 := Lib.hid fin2
  by_cases n0 : 0 ≤ v
  · by_cases n1 : v ≤ 4294967295
    · have hok : recOk ⟨1, 0, 0, v, [], false, Cl.zero, [], [], [], []⟩ = true := by simp [recOk, short, long, pagesOk, Cl.zero]; omega
      have n2 : decide (v ≤ 4294967295) = true := decide_eq_true n1
      replace hok := Lib.hid hok
      go_enter Tryd.func7, Tryd.ntmps7
      go_wp2_with fail
      refine (alive_true _ hT).mono ?_
      rintro e w1 ⟨rfl, hb1⟩
      have hT1 := fun o => hT.more (hb1.alloc hb1.size o)
      replace hb1 := Lib.hid hb1
      replace hT1 := Lib.hid hT1
      go_wp2_with fail
      refine (put_any _ _ _ _ _ ⟨1, 0, 0, v, [], false, Cl.zero, [], [], [], []⟩ _ (hT1.out _) ⟨rfl, isI_nil _, isP_nil _, isT_nil _, isD_nil _⟩).mono ?_
      rintro e w2 ⟨rfl, hb2⟩
      have hO2 := (Chg.of_below (S := fun _ => False) hb2).heap (heap_alloc_new w1 _) id
      have hbE := fin.out w1 hb1.out _ _ hb2
      obtain ⟨⟨d0, d1, d2, d3, d4, d5, d6⟩, ⟨d7, d8, d9, d10, d11, d12, d13⟩, hl9⟩ := rec_cells hO2
      have hT2 := hT.more hbE
      rw [hok.out]
      rw [if_pos rfl]
      replace hbE := Lib.hid hbE
      clear hb2 hO2 hT1 hb1
      go_wp2_with fail
      refine (right_any _ _ _ _ _ ⟨1, 0, 0, v, [], false, Cl.zero, [], [], [], []⟩ _ hT2 ⟨rfl, isI_nil _, isP_nil _, isT_nil _, isD_nil _⟩).mono ?_
      rintro e w3 ⟨rfl, hb3⟩
      rw [hok.out]
      have hbF := Lib.hid (hbE.out.trans (hb3.mono hbE.out.size))
      clear hb3
      go_wp2
      go_ret
      exact ⟨rfl, hbF.out⟩
    · have hok : recOk ⟨1, 0, 0, v, [], false, Cl.zero, [], [], [], []⟩ = false := by simp [recOk, short, long, pagesOk, Cl.zero]; omega
      have n2 : decide (v ≤ 4294967295) = false := decide_eq_false n1
      replace hok := Lib.hid hok
      go_enter Tryd.func7, Tryd.ntmps7
      go_wp2_with fail
      refine (alive_true _ hT).mono ?_
      rintro e w1 ⟨rfl, hb1⟩
      have hT1 := fun o => hT.more (hb1.alloc hb1.size o)
      replace hb1 := Lib.hid hb1
      replace hT1 := Lib.hid hT1
      go_wp2_with fail
      refine (put_any _ _ _ _ _ ⟨1, 0, 0, v, [], false, Cl.zero, [], [], [], []⟩ _ (hT1.out _) ⟨rfl, isI_nil _, isP_nil _, isT_nil _, isD_nil _⟩).mono ?_
      rintro e w2 ⟨rfl, hb2⟩
      have hO2 := (Chg.of_below (S := fun _ => False) hb2).heap (heap_alloc_new w1 _) id
      have hbE := fin.out w1 hb1.out _ _ hb2
      obtain ⟨⟨d0, d1, d2, d3, d4, d5, d6⟩, ⟨d7, d8, d9, d10, d11, d12, d13⟩, hl9⟩ := rec_cells hO2
      have hT2 := hT.more hbE
      rw [hok.out]
      rw [if_neg (by decide), mk_nil]
      replace hbE := Lib.hid hbE
      clear hb2 hO2 hT1 hb1
      go_wp2_with fail
      refine (right_any _ _ _ _ _ ⟨1, 0, 0, v, [], false, Cl.zero, [], [], [], []⟩ _ hT2 ⟨rfl, isI_nil _, isP_nil _, isT_nil _, isD_nil _⟩).mono ?_
      rintro e w3 ⟨rfl, hb3⟩
      rw [hok.out]
      have hbF := Lib.hid (hbE.out.trans (hb3.mono hbE.out.size))
      clear hb3
      go_wp2
      go_ret
      exact ⟨rfl, hbF.out⟩
  · have hok : recOk ⟨1, 0, 0, v, [], false, Cl.zero, [], [], [], []⟩ = false := by simp [recOk, short, long, pagesOk, Cl.zero]; omega
    replace hok := Lib.hid hok
    go_enter Tryd.func7, Tryd.ntmps7
    go_wp2_with fail
    refine (alive_true _ hT).mono ?_
    rintro e w1 ⟨rfl, hb1⟩
    have hT1 := fun o => hT.more (hb1.alloc hb1.size o)
    replace hb1 := Lib.hid hb1
    replace hT1 := Lib.hid hT1
    go_wp2_with fail
    refine (put_any _ _ _ _ _ ⟨1, 0, 0, v, [], false, Cl.zero, [], [], [], []⟩ _ (hT1.out _) ⟨rfl, isI_nil _, isP_nil _, isT_nil _, isD_nil _⟩).mono ?_
    rintro e w2 ⟨rfl, hb2⟩
    have hO2 := (Chg.of_below (S := fun _ => False) hb2).heap (heap_alloc_new w1 _) id
    have hbE := fin.out w1 hb1.out _ _ hb2
    obtain ⟨⟨d0, d1, d2, d3, d4, d5, d6⟩, ⟨d7, d8, d9, d10, d11, d12, d13⟩, hl9⟩ := rec_cells hO2
    have hT2 := hT.more hbE
    rw [hok.out]
    rw [if_neg (by decide), mk_nil]
    replace hbE := Lib.hid hbE
    clear hb2 hO2 hT1 hb1
    go_wp2_with fail
    refine (right_any _ _ _ _ _ ⟨1, 0, 0, v, [], false, Cl.zero, [], [], [], []⟩ _ hT2 ⟨rfl, isI_nil _, isP_nil _, isT_nil _, isD_nil _⟩).mono ?_
    rintro e w3 ⟨rfl, hb3⟩
    rw [hok.out]
    have hbF := Lib.hid (hbE.out.trans (hb3.mono hbE.out.size))
    clear hb3
    go_wp2
    go_ret
    exact ⟨rfl, hbF.out⟩
set_option maxRecDepth 100000 in
set_option maxHeartbeats 6400000 in
theorem edges_3 (k v : Int) (w : World) (hT : Tab w) (e0 : ((wrap64 (k.tmod 5 + 5)).tmod 5 == 0) = false) (e1 : ((wrap64 (k.tmod 5 + 5)).tmod 5 == 1) = false) (e2 : ((wrap64 (k.tmod 5 + 5)).tmod 5 == 2) = false) (e3 : ((wrap64 (k.tmod 5 + 5)).tmod 5 == 3) = true) : Calls Tryd.prog 7 #[.int .i64 k, .int .i64 v] w fun e w' => e = .returned (.bool true) ∧ Below w.heap.size w w' := by
  have fin : ∀ (w1 : World), Below w.heap.size w w1 → ∀ o w2, Below (w1.alloc o).heap.size (w1.alloc o) w2 → Below w.heap.size w w2 := fun w1 h o w2 h2 => (h.alloc h.size o).trans (h2.mono (by have := h.size; simp; omega))
  have fin2 : ∀ (w1 : World), Below w.heap.size w w1 → ∀ o o' w2, Below ((w1.alloc o).alloc o').heap.size ((w1.alloc o).alloc o') w2 → Below w.heap.size w w2 := fun w1 h o o' w2 h2 => ((h.alloc h.size o).alloc (by have := h.size; simp; omega) o').trans (h2.mono (by have := h.size; simp; omega))
  replace fin := Lib.hid fin
  replace fin2 := Lib.hid fin2
  by_cases n0 : 0 ≤ v
  · by_cases n1 : v ≤ 65535
    · have hok : recOk ⟨1, 0, 0, 0, [], false, Cl.zero, [1, v], [], [], []⟩ = true := by simp [recOk, short, long, pagesOk, Cl.zero]; omega
      have n2 : decide (v ≤ 65535) = true := decide_eq_true n1
      replace hok := Lib.hid hok
      go_enter Tryd.func7, Tryd.ntmps7
      go_wp2_with fail
      refine (alive_true _ hT).mono ?_
      rintro e w1 ⟨rfl, hb1⟩
      have hT1 := fun o o' => hT.more ((hb1.alloc hb1.size o).alloc (by have := hb1.size; simp; omega) o')
      replace hb1 := Lib.hid hb1
      replace hT1 := Lib.hid hT1
      go_wp2_with fail
      have hN := heap_alloc_new (w1.alloc (.cells #[.int .i64 1, .int .i64 0, .int .i64 0, .int .i64 0, .string ⟨#[]⟩, .bool false, .string ⟨#[]⟩, .string ⟨#[]⟩, .int .i64 0, .int .i64 0, .slice (some ⟨w1.heap.size + 1, 0, none⟩) 2 2, .slice none 0 0, .slice none 0 0, .slice none 0 0] 29 (0, 0))) (.cells #[.int .i64 1, .int .i64 v] 3 (0, 0))
      rw [World.size_alloc] at hN
      refine (put_any _ _ _ _ _ ⟨1, 0, 0, 0, [], false, Cl.zero, [1, v], [], [], []⟩ _ (hT1.out _ _) ⟨rfl, two_nums hN 2, isP_nil _, isT_nil _, isD_nil _⟩).mono ?_
      rintro e w2 ⟨rfl, hb2⟩
      have hO2 := (Chg.of_below (S := fun _ => False) hb2).heap (((Chg.refl (fun _ => False) _).alloc _).heap (heap_alloc_new w1 _) id) id
      have hN2 := (Chg.of_below (S := fun _ => False) hb2).heap hN id
      have hbE := fin2.out w1 hb1.out _ _ _ hb2
      obtain ⟨⟨d0, d1, d2, d3, d4, d5, d6⟩, ⟨d7, d8, d9, d10, d11, d12, d13⟩, hl9⟩ := rec_cells hO2
      have hT2 := hT.more hbE
      rw [hok.out]
      rw [if_pos rfl]
      replace hbE := Lib.hid hbE
      clear hb2 hO2 hT1 hb1
      go_wp2_with fail
      refine (right_any _ _ _ _ _ ⟨1, 0, 0, 0, [], false, Cl.zero, [1, v], [], [], []⟩ _ hT2 ⟨rfl, two_nums hN2 2, isP_nil _, isT_nil _, isD_nil _⟩).mono ?_
      rintro e w3 ⟨rfl, hb3⟩
      rw [hok.out]
      have hbF := Lib.hid (hbE.out.trans (hb3.mono hbE.out.size))
      clear hb3
      go_wp2
      go_ret
      exact ⟨rfl, hbF.out⟩
    · have hok : recOk ⟨1, 0, 0, 0, [], false, Cl.zero, [1, v], [], [], []⟩ = false := by simp [recOk, short, long, pagesOk, Cl.zero]; omega
      have n2 : decide (v ≤ 65535) = false := decide_eq_false n1
      replace hok := Lib.hid hok
      go_enter Tryd.func7, Tryd.ntmps7
      go_wp2_with fail
      refine (alive_true _ hT).mono ?_
      rintro e w1 ⟨rfl, hb1⟩
      have hT1 := fun o o' => hT.more ((hb1.alloc hb1.size o).alloc (by have := hb1.size; simp; omega) o')
      replace hb1 := Lib.hid hb1
      replace hT1 := Lib.hid hT1
      go_wp2_with fail
      have hN := heap_alloc_new (w1.alloc (.cells #[.int .i64 1, .int .i64 0, .int .i64 0, .int .i64 0, .string ⟨#[]⟩, .bool false, .string ⟨#[]⟩, .string ⟨#[]⟩, .int .i64 0, .int .i64 0, .slice (some ⟨w1.heap.size + 1, 0, none⟩) 2 2, .slice none 0 0, .slice none 0 0, .slice none 0 0] 29 (0, 0))) (.cells #[.int .i64 1, .int .i64 v] 3 (0, 0))
      rw [World.size_alloc] at hN
      refine (put_any _ _ _ _ _ ⟨1, 0, 0, 0, [], false, Cl.zero, [1, v], [], [], []⟩ _ (hT1.out _ _) ⟨rfl, two_nums hN 2, isP_nil _, isT_nil _, isD_nil _⟩).mono ?_
      rintro e w2 ⟨rfl, hb2⟩
      have hO2 := (Chg.of_below (S := fun _ => False) hb2).heap (((Chg.refl (fun _ => False) _).alloc _).heap (heap_alloc_new w1 _) id) id
      have hN2 := (Chg.of_below (S := fun _ => False) hb2).heap hN id
      have hbE := fin2.out w1 hb1.out _ _ _ hb2
      obtain ⟨⟨d0, d1, d2, d3, d4, d5, d6⟩, ⟨d7, d8, d9, d10, d11, d12, d13⟩, hl9⟩ := rec_cells hO2
      have hT2 := hT.more hbE
      rw [hok.out]
      rw [if_neg (by decide), mk_nil]
      replace hbE := Lib.hid hbE
      clear hb2 hO2 hT1 hb1
      go_wp2_with fail
      refine (right_any _ _ _ _ _ ⟨1, 0, 0, 0, [], false, Cl.zero, [1, v], [], [], []⟩ _ hT2 ⟨rfl, two_nums hN2 2, isP_nil _, isT_nil _, isD_nil _⟩).mono ?_
      rintro e w3 ⟨rfl, hb3⟩
      rw [hok.out]
      have hbF := Lib.hid (hbE.out.trans (hb3.mono hbE.out.size))
      clear hb3
      go_wp2
      go_ret
      exact ⟨rfl, hbF.out⟩
  · have hok : recOk ⟨1, 0, 0, 0, [], false, Cl.zero, [1, v], [], [], []⟩ = false := by simp [recOk, short, long, pagesOk, Cl.zero]; omega
    replace hok := Lib.hid hok
    go_enter Tryd.func7, Tryd.ntmps7
    go_wp2_with fail
    refine (alive_true _ hT).mono ?_
    rintro e w1 ⟨rfl, hb1⟩
    have hT1 := fun o o' => hT.more ((hb1.alloc hb1.size o).alloc (by have := hb1.size; simp; omega) o')
    replace hb1 := Lib.hid hb1
    replace hT1 := Lib.hid hT1
    go_wp2_with fail
    have hN := heap_alloc_new (w1.alloc (.cells #[.int .i64 1, .int .i64 0, .int .i64 0, .int .i64 0, .string ⟨#[]⟩, .bool false, .string ⟨#[]⟩, .string ⟨#[]⟩, .int .i64 0, .int .i64 0, .slice (some ⟨w1.heap.size + 1, 0, none⟩) 2 2, .slice none 0 0, .slice none 0 0, .slice none 0 0] 29 (0, 0))) (.cells #[.int .i64 1, .int .i64 v] 3 (0, 0))
    rw [World.size_alloc] at hN
    refine (put_any _ _ _ _ _ ⟨1, 0, 0, 0, [], false, Cl.zero, [1, v], [], [], []⟩ _ (hT1.out _ _) ⟨rfl, two_nums hN 2, isP_nil _, isT_nil _, isD_nil _⟩).mono ?_
    rintro e w2 ⟨rfl, hb2⟩
    have hO2 := (Chg.of_below (S := fun _ => False) hb2).heap (((Chg.refl (fun _ => False) _).alloc _).heap (heap_alloc_new w1 _) id) id
    have hN2 := (Chg.of_below (S := fun _ => False) hb2).heap hN id
    have hbE := fin2.out w1 hb1.out _ _ _ hb2
    obtain ⟨⟨d0, d1, d2, d3, d4, d5, d6⟩, ⟨d7, d8, d9, d10, d11, d12, d13⟩, hl9⟩ := rec_cells hO2
    have hT2 := hT.more hbE
    rw [hok.out]
    rw [if_neg (by decide), mk_nil]
    replace hbE := Lib.hid hbE
    clear hb2 hO2 hT1 hb1
    go_wp2_with fail
    refine (right_any _ _ _ _ _ ⟨1, 0, 0, 0, [], false, Cl.zero, [1, v], [], [], []⟩ _ hT2 ⟨rfl, two_nums hN2 2, isP_nil _, isT_nil _, isD_nil _⟩).mono ?_
    rintro e w3 ⟨rfl, hb3⟩
    rw [hok.out]
    have hbF := Lib.hid (hbE.out.trans (hb3.mono hbE.out.size))
    clear hb3
    go_wp2
    go_ret
    exact ⟨rfl, hbF.out⟩
set_option maxRecDepth 100000 in
set_option maxHeartbeats 6400000 in
theorem edges_4 (k v : Int) (w : World) (hT : Tab w) (e0 : ((wrap64 (k.tmod 5 + 5)).tmod 5 == 0) = false) (e1 : ((wrap64 (k.tmod 5 + 5)).tmod 5 == 1) = false) (e2 : ((wrap64 (k.tmod 5 + 5)).tmod 5 == 2) = false) (e3 : ((wrap64 (k.tmod 5 + 5)).tmod 5 == 3) = false) : Calls Tryd.prog 7 #[.int .i64 k, .int .i64 v] w fun e w' => e = .returned (.bool true) ∧ Below w.heap.size w w' := by
  have fin : ∀ (w1 : World), Below w.heap.size w w1 → ∀ o w2, Below (w1.alloc o).heap.size (w1.alloc o) w2 → Below w.heap.size w w2 := fun w1 h o w2 h2 => (h.alloc h.size o).trans (h2.mono (by have := h.size; simp; omega))
  have fin2 : ∀ (w1 : World), Below w.heap.size w w1 → ∀ o o' w2, Below ((w1.alloc o).alloc o').heap.size ((w1.alloc o).alloc o') w2 → Below w.heap.size w w2 := fun w1 h o o' w2 h2 => ((h.alloc h.size o).alloc (by have := h.size; simp; omega) o').trans (h2.mono (by have := h.size; simp; omega))
  replace fin := Lib.hid fin
  replace fin2 := Lib.hid fin2
  by_cases n0 : 0 ≤ v
  · by_cases n3 : 1 ≤ v
    · by_cases n1 : v ≤ 7
      · have hok : recOk ⟨v, 0, 0, 0, [], false, Cl.zero, [], [], [], []⟩ = true := by simp [recOk, short, long, pagesOk, Cl.zero]; omega
        have n2 : decide (v ≤ 7) = true := decide_eq_true n1
        replace hok := Lib.hid hok
        go_enter Tryd.func7, Tryd.ntmps7
        go_wp2_with fail
        refine (alive_true _ hT).mono ?_
        rintro e w1 ⟨rfl, hb1⟩
        have hT1 := fun o => hT.more (hb1.alloc hb1.size o)
        replace hb1 := Lib.hid hb1
        replace hT1 := Lib.hid hT1
        go_wp2_with fail
        refine (put_any _ _ _ _ _ ⟨v, 0, 0, 0, [], false, Cl.zero, [], [], [], []⟩ _ (hT1.out _) ⟨rfl, isI_nil _, isP_nil _, isT_nil _, isD_nil _⟩).mono ?_
        rintro e w2 ⟨rfl, hb2⟩
        have hO2 := (Chg.of_below (S := fun _ => False) hb2).heap (heap_alloc_new w1 _) id
        have hbE := fin.out w1 hb1.out _ _ hb2
        obtain ⟨⟨d0, d1, d2, d3, d4, d5, d6⟩, ⟨d7, d8, d9, d10, d11, d12, d13⟩, hl9⟩ := rec_cells hO2
        have hT2 := hT.more hbE
        rw [hok.out]
        rw [if_pos rfl]
        replace hbE := Lib.hid hbE
        clear hb2 hO2 hT1 hb1
        go_wp2_with fail
        refine (right_any _ _ _ _ _ ⟨v, 0, 0, 0, [], false, Cl.zero, [], [], [], []⟩ _ hT2 ⟨rfl, isI_nil _, isP_nil _, isT_nil _, isD_nil _⟩).mono ?_
        rintro e w3 ⟨rfl, hb3⟩
        rw [hok.out]
        have hbF := Lib.hid (hbE.out.trans (hb3.mono hbE.out.size))
        clear hb3
        go_wp2
        go_ret
        exact ⟨rfl, hbF.out⟩
      · have hok : recOk ⟨v, 0, 0, 0, [], false, Cl.zero, [], [], [], []⟩ = false := by simp [recOk, short, long, pagesOk, Cl.zero]; omega
        have n2 : decide (v ≤ 7) = false := decide_eq_false n1
        replace hok := Lib.hid hok
        go_enter Tryd.func7, Tryd.ntmps7
        go_wp2_with fail
        refine (alive_true _ hT).mono ?_
        rintro e w1 ⟨rfl, hb1⟩
        have hT1 := fun o => hT.more (hb1.alloc hb1.size o)
        replace hb1 := Lib.hid hb1
        replace hT1 := Lib.hid hT1
        go_wp2_with fail
        refine (put_any _ _ _ _ _ ⟨v, 0, 0, 0, [], false, Cl.zero, [], [], [], []⟩ _ (hT1.out _) ⟨rfl, isI_nil _, isP_nil _, isT_nil _, isD_nil _⟩).mono ?_
        rintro e w2 ⟨rfl, hb2⟩
        have hO2 := (Chg.of_below (S := fun _ => False) hb2).heap (heap_alloc_new w1 _) id
        have hbE := fin.out w1 hb1.out _ _ hb2
        obtain ⟨⟨d0, d1, d2, d3, d4, d5, d6⟩, ⟨d7, d8, d9, d10, d11, d12, d13⟩, hl9⟩ := rec_cells hO2
        have hT2 := hT.more hbE
        rw [hok.out]
        rw [if_neg (by decide), mk_nil]
        replace hbE := Lib.hid hbE
        clear hb2 hO2 hT1 hb1
        go_wp2_with fail
        refine (right_any _ _ _ _ _ ⟨v, 0, 0, 0, [], false, Cl.zero, [], [], [], []⟩ _ hT2 ⟨rfl, isI_nil _, isP_nil _, isT_nil _, isD_nil _⟩).mono ?_
        rintro e w3 ⟨rfl, hb3⟩
        rw [hok.out]
        have hbF := Lib.hid (hbE.out.trans (hb3.mono hbE.out.size))
        clear hb3
        go_wp2
        go_ret
        exact ⟨rfl, hbF.out⟩
    · have hok : recOk ⟨v, 0, 0, 0, [], false, Cl.zero, [], [], [], []⟩ = false := by simp [recOk, short, long, pagesOk, Cl.zero]; omega
      replace hok := Lib.hid hok
      go_enter Tryd.func7, Tryd.ntmps7
      go_wp2_with fail
      refine (alive_true _ hT).mono ?_
      rintro e w1 ⟨rfl, hb1⟩
      have hT1 := fun o => hT.more (hb1.alloc hb1.size o)
      replace hb1 := Lib.hid hb1
      replace hT1 := Lib.hid hT1
      go_wp2_with fail
      refine (put_any _ _ _ _ _ ⟨v, 0, 0, 0, [], false, Cl.zero, [], [], [], []⟩ _ (hT1.out _) ⟨rfl, isI_nil _, isP_nil _, isT_nil _, isD_nil _⟩).mono ?_
      rintro e w2 ⟨rfl, hb2⟩
      have hO2 := (Chg.of_below (S := fun _ => False) hb2).heap (heap_alloc_new w1 _) id
      have hbE := fin.out w1 hb1.out _ _ hb2
      obtain ⟨⟨d0, d1, d2, d3, d4, d5, d6⟩, ⟨d7, d8, d9, d10, d11, d12, d13⟩, hl9⟩ := rec_cells hO2
      have hT2 := hT.more hbE
      rw [hok.out]
      rw [if_neg (by decide), mk_nil]
      replace hbE := Lib.hid hbE
      clear hb2 hO2 hT1 hb1
      go_wp2_with fail
      refine (right_any _ _ _ _ _ ⟨v, 0, 0, 0, [], false, Cl.zero, [], [], [], []⟩ _ hT2 ⟨rfl, isI_nil _, isP_nil _, isT_nil _, isD_nil _⟩).mono ?_
      rintro e w3 ⟨rfl, hb3⟩
      rw [hok.out]
      have hbF := Lib.hid (hbE.out.trans (hb3.mono hbE.out.size))
      clear hb3
      go_wp2
      go_ret
      exact ⟨rfl, hbF.out⟩
  · have n3 : ¬ 1 ≤ v := by omega
    have hok : recOk ⟨v, 0, 0, 0, [], false, Cl.zero, [], [], [], []⟩ = false := by simp [recOk, short, long, pagesOk, Cl.zero]; omega
    replace hok := Lib.hid hok
    go_enter Tryd.func7, Tryd.ntmps7
    go_wp2_with fail
    refine (alive_true _ hT).mono ?_
    rintro e w1 ⟨rfl, hb1⟩
    have hT1 := fun o => hT.more (hb1.alloc hb1.size o)
    replace hb1 := Lib.hid hb1
    replace hT1 := Lib.hid hT1
    go_wp2_with fail
    refine (put_any _ _ _ _ _ ⟨v, 0, 0, 0, [], false, Cl.zero, [], [], [], []⟩ _ (hT1.out _) ⟨rfl, isI_nil _, isP_nil _, isT_nil _, isD_nil _⟩).mono ?_
    rintro e w2 ⟨rfl, hb2⟩
    have hO2 := (Chg.of_below (S := fun _ => False) hb2).heap (heap_alloc_new w1 _) id
    have hbE := fin.out w1 hb1.out _ _ hb2
    obtain ⟨⟨d0, d1, d2, d3, d4, d5, d6⟩, ⟨d7, d8, d9, d10, d11, d12, d13⟩, hl9⟩ := rec_cells hO2
    have hT2 := hT.more hbE
    rw [hok.out]
    rw [if_neg (by decide), mk_nil]
    replace hbE := Lib.hid hbE
    clear hb2 hO2 hT1 hb1
    go_wp2_with fail
    refine (right_any _ _ _ _ _ ⟨v, 0, 0, 0, [], false, Cl.zero, [], [], [], []⟩ _ hT2 ⟨rfl, isI_nil _, isP_nil _, isT_nil _, isD_nil _⟩).mono ?_
    rintro e w3 ⟨rfl, hb3⟩
    rw [hok.out]
    have hbF := Lib.hid (hbE.out.trans (hb3.mono hbE.out.size))
    clear hb3
    go_wp2
    go_ret
    exact ⟨rfl, hbF.out⟩
theorem recordEdges_walk (k v : Int) (w : World) (hT : Tab w) (w0 : (Lit.int .i64 k).wf = true) (w1 : (Lit.int .i64 v).wf = true) : Calls Tryd.prog 7 #[.int .i64 k, .int .i64 v] w fun e w' => e = .returned (.bool true) ∧ Below w.heap.size w w' := by
  obtain ⟨q, hq⟩ : ∃ q, q = (wrap64 (k.tmod 5 + 5)).tmod 5 := ⟨_, rfl⟩
  have hq1 : 0 ≤ q ∧ q < 5 := by
    have h1 := Int.lt_tmod_of_pos k (show (0 : Int) < 5 by omega)
    have h2 := Int.tmod_lt_of_pos k (show (0 : Int) < 5 by omega)
    have h3 : wrap64 (k.tmod 5 + 5) = k.tmod 5 + 5 := by unfold wrap64; omega
    rw [h3, Int.tmod_eq_emod_of_nonneg (by omega)] at hq
    omega
  have hqs : ∀ c, c = q → ((wrap64 (k.tmod 5 + 5)).tmod 5 == c) = true := fun c e => by rw [e, hq]; exact beq_self_eq_true _
  have hqn : ∀ c, c ≠ q → ((wrap64 (k.tmod 5 + 5)).tmod 5 == c) = false := fun c e => by rw [beq_eq_false_iff_ne, ← hq]; exact fun h => e h.symm
  clear hq
  have : q = 0 ∨ q = 1 ∨ q = 2 ∨ q = 3 ∨ q = 4 := by omega
  rcases this with rfl | rfl | rfl | rfl | rfl
  · exact edges_0 k v w hT (hqs 0 rfl)
  · exact edges_1 k v w hT (hqn 0 (by decide)) (hqs 1 rfl)
  · exact edges_2 k v w hT (hqn 0 (by decide)) (hqn 1 (by decide)) (hqs 2 rfl)
  · exact edges_3 k v w hT (hqn 0 (by decide)) (hqn 1 (by decide)) (hqn 2 (by decide)) (hqs 3 rfl)
  · exact edges_4 k v w hT (hqn 0 (by decide)) (hqn 1 (by decide)) (hqn 2 (by decide)) (hqn 3 (by decide))
end Go.Proofs.YtikdjbcfckjccaaDoor
