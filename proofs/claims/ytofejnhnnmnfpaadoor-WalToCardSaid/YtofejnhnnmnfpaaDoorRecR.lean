/- Which log records may be. No condition but the table of spaces. -/
import Derived.Test.YtofejnhnnmnfpaaDoorRecA
import Derived.Deep.LoopGhost
import Derived.BigQuiet
import Derived.Deep.QuietTactic
import Derived.Deep.RegionHeld3
namespace Go.Proofs.YtofejnhnnmnfpaaDoor.Rc
set_option maxRecDepth 100000
open Go.RowKit
theorem in_any (v most : Int) (w : World) : Calls Tryd.prog 83 #[.int .i64 v, .int .i64 most] w fun e w' => e = .returned (.bool (decide (0 ≤ v) && decide (v ≤ most))) ∧ w = w' := by
  by_cases h : 0 ≤ v
  · go_enter Tryd.func83, Tryd.ntmps83
    go_wp2
    go_ret
    exact ⟨by simp [h], rfl⟩
  · have hd : decide (0 ≤ v) = false := by simpa using h
    go_enter Tryd.func83, Tryd.ntmps83
    go_wp2
    go_ret
    exact ⟨by simp, rfl⟩
theorem in_short (v : Int) (w : World) : Calls Tryd.prog 83 #[.int .i64 v, .int .i64 65535] w fun e w' => e = .returned (.bool (short v)) ∧ w = w' := in_any v 65535 w
theorem in_long (v : Int) (w : World) : Calls Tryd.prog 83 #[.int .i64 v, .int .i64 4294967295] w fun e w' => e = .returned (.bool (long v)) ∧ w = w' := in_any v 4294967295 w
theorem pg1_any (n : Int) (w : World) : Calls Tryd.prog 96 #[.int .i64 n] w fun e w' => e = .returned (.bool (!short n)) ∧ w = w' := by
  have C := Lib.hid (in_short n w)
  go_enter Tryd.func96, Tryd.ntmps96
  go_wp2_with fail
  refine C.out.mono ?_
  rintro e w1 ⟨rfl, rfl⟩
  go_wp2
  go_ret
  exact ⟨rfl, rfl⟩
theorem ri1_any (d : Int × Int) (w : World) : Calls Tryd.prog 88 #[.agg #[.int .i64 d.1, .int .i64 d.2]] w fun e w' => e = .returned (.bool (!dirOk d)) ∧ Below w.heap.size w w' := by
  obtain ⟨x, y⟩ := d
  have hC := fun w => in_short x w
  have hD := fun w => in_long y w
  obtain ⟨r, hr⟩ : ∃ r, r = dirOk (x, y) := ⟨_, rfl⟩
  rw [← hr]
  simp only [dirOk] at hr
  cases hs : short x with
  | true =>
    rw [hs, Bool.true_and] at hr
    rw [← hr] at hD
    simp only [hs] at hC
    replace hC := Lib.hid hC
    replace hD := Lib.hid hD
    clear hr
    go_enter Tryd.func88, Tryd.ntmps88
    go_wp2_with fail
    refine (hC.out _).mono ?_
    rintro e w1 ⟨rfl, rfl⟩
    go_wp2_with fail
    refine (hD.out _).mono ?_
    rintro e w1 ⟨rfl, rfl⟩
    go_wp2
    go_ret
    exact ⟨rfl, (Below.refl _ _).alloc (Nat.le_refl _) _⟩
  | false =>
    rw [hs, Bool.false_and] at hr
    subst hr
    simp only [hs] at hC
    replace hC := Lib.hid hC
    clear hD
    go_enter Tryd.func88, Tryd.ntmps88
    go_wp2_with fail
    refine (hC.out _).mono ?_
    rintro e w1 ⟨rfl, rfl⟩
    go_wp2
    go_ret
    exact ⟨rfl, (Below.refl _ _).alloc (Nat.le_refl _) _⟩
theorem all_split {α : Type} (p : α → Bool) (l : List α) (k : Nat) (h : k < l.length) (_ : ∀ j (hj : j < k), p (l[j]'(by omega)) = true) (hp : p l[k] = false) : l.all p = false := by
  rw [Bool.eq_false_iff]
  intro e
  rw [List.all_eq_true] at e
  have := e _ (List.getElem_mem h)
  rw [hp] at this
  cases this
theorem all_done {α : Type} (p : α → Bool) (l : List α) (hk : ∀ j (hj : j < l.length), p (l[j]) = true) : l.all p = true := by
  rw [List.all_eq_true]
  intro x hx
  obtain ⟨j, hj, rfl⟩ := List.getElem_of_mem hx
  exact hk j hj
set_option maxRecDepth 100000 in
theorem ixi_any (v : Value) (l : List Int) (w : World) (h : IsI w v l) (hl : l.length ≤ 1000000) :
    Calls Tryd.prog 100 #[v, .func (.func 96) #[] #[]] w fun e w' => ∃ k : Int, e = .returned (.int .i64 k) ∧ decide (0 ≤ k) = !l.all short ∧ w = w' := by
  obtain ⟨a, c, rfl, hA⟩ := h
  replace hA := Lib.hid hA
  obtain ⟨al, hal⟩ : ∃ al, al = l.all short := ⟨_, rfl⟩
  rw [← hal]
  replace hal := Lib.hid hal
  go_enter Tryd.func100, Tryd.ntmps100
  go_wp2
  go_loopg [8] l.length (fun g i wr => ∃ k : Nat, g + k = l.length ∧ i = .int .i64 k ∧ Aside ((∀ j (hj : j < k) (hl : j < l.length), short l[j] = true) ∧ w = wr))
  case atStart => exact ⟨0, rfl, rfl, fun j hj => by omega, rfl⟩
  case round =>
    obtain ⟨k, hk, rfl, hI⟩ := hrel
    obtain ⟨i1, rfl⟩ := hI.out
    clear hI
    by_cases hlt : k < l.length
    · obtain ⟨b, o, rfl, hc⟩ := hA.out k hlt
      have hbl := World.block_lt_of_cell? w _ hc
      have C := pg1_any l[k] w
      obtain ⟨x, hx⟩ : ∃ x, x = l[k] := ⟨_, rfl⟩
      rw [← hx] at hc C
      cases hs : short x with
      | true =>
        rw [hs] at C
        replace C := Lib.hid C
        replace i1 := Lib.hid i1
        replace hx := Lib.hid hx
        replace hs := Lib.hid hs
        go_wp2_with fail
        refine C.out.mono ?_
        rintro e w1 ⟨rfl, rfl⟩
        go_wp2
        go_roundg (l.length - (k + 1))
        case rel =>
          refine ⟨k + 1, by omega, by go_num, fun j hj hl => ?_, rfl⟩
          by_cases e : j = k
          · subst e; rw [← hx.out]; exact hs.out
          · exact i1.out j (by omega) hl
        case measure => omega
      | false =>
        rw [hs] at C
        have hal1 : al = false := hal.out.trans (all_split short l k hlt (fun j hj => i1 j hj (by omega)) (by rw [← hx]; exact hs))
        replace C := Lib.hid C
        replace hx := Lib.hid hx
        replace hal1 := Lib.hid hal1
        clear i1 hs
        go_wp2_with fail
        refine C.out.mono ?_
        rintro e w1 ⟨rfl, rfl⟩
        go_wp2
        go_ret
        exact ⟨(k : Int), rfl, by rw [hal1.out]; simp, rfl⟩
    · obtain rfl : k = l.length := by omega
      have hal1 : al = true := hal.out.trans (all_done short l (fun j hj => i1 j hj hj))
      replace hal1 := Lib.hid hal1
      clear i1
      go_wp2
      go_ret
      exact ⟨-1, rfl, by rw [hal1.out]; decide, rfl⟩
theorem coi_any (v : Value) (l : List Int) (w : World) (h : IsI w v l) (hl : l.length ≤ 1000000) :
    Calls Tryd.prog 95 #[v, .func (.func 96) #[] #[]] w fun e w' => e = .returned (.bool (!l.all short)) ∧ w = w' := by
  have C := Lib.hid (ixi_any v l w h hl)
  go_enter Tryd.func95, Tryd.ntmps95
  go_wp2_with fail
  refine C.out.mono ?_
  rintro e w1 ⟨k, rfl, hk, rfl⟩
  go_wp2
  go_ret
  exact ⟨rfl, rfl⟩
theorem pages_any (v : Value) (l : List Int) (w : World) (h : IsI w v l) :
    Calls Tryd.prog 85 #[v] w fun e w' => e = .returned (.bool (pagesOk l)) ∧ w = w' := by
  have hmf : ∀ (fn : Fn) (first cap : Array Value) (w : World), (Instr.makeFunc fn first cap).run Tryd.prog w = .ok (.func fn first cap) w := fun _ _ _ _ => rfl
  by_cases hl : (l.length : Int) ≤ 64
  · have C := coi_any v l w h (by omega)
    obtain ⟨r, hr⟩ : ∃ r, r = pagesOk l := ⟨_, rfl⟩
    have hr2 : r = l.all short := by rw [hr]; simp [pagesOk]; omega
    rw [← hr]
    rw [← hr2] at C
    replace C := Lib.hid C
    obtain ⟨a, c, rfl, hA⟩ := h
    clear hr hr2 hA
    go_enter Tryd.func85, Tryd.ntmps85
    go_wp2_with fail
    refine C.out.mono ?_
    rintro e w1 ⟨rfl, rfl⟩
    go_wp2
    go_ret
    exact ⟨rfl, rfl⟩
  · have hr : pagesOk l = false := by
      have : ¬ l.length ≤ 64 := by omega
      simp [pagesOk, this]
    rw [hr]
    obtain ⟨a, c, rfl, hA⟩ := h
    clear hr hA
    go_enter Tryd.func85, Tryd.ntmps85
    go_wp2
    go_ret
    exact ⟨rfl, rfl⟩
set_option maxRecDepth 100000 in
theorem ixd_any (v : Value) (l : List (Int × Int)) (w : World) (h : IsD w v l) (hl : l.length ≤ 1000000) :
    Calls Tryd.prog 97 #[v, .func (.func 88) #[] #[]] w fun e w' => ∃ k : Int, e = .returned (.int .i64 k) ∧ decide (0 ≤ k) = !l.all dirOk ∧ Below w.heap.size w w' := by
  obtain ⟨a, c, rfl, hA⟩ := h
  replace hA := Lib.hid hA
  obtain ⟨al, hal⟩ : ∃ al, al = l.all dirOk := ⟨_, rfl⟩
  rw [← hal]
  replace hal := Lib.hid hal
  go_enter Tryd.func97, Tryd.ntmps97
  go_wp2
  go_loopg [8] l.length (fun g i wr => ∃ k : Nat, g + k = l.length ∧ i = .int .i64 k ∧ Aside ((∀ j (hj : j < k) (hl : j < l.length), dirOk l[j] = true) ∧ Below w.heap.size w wr))
  case atStart => exact ⟨0, rfl, rfl, fun j hj => by omega, Below.refl _ _⟩
  case round =>
    obtain ⟨k, hk, rfl, hI⟩ := hrel
    obtain ⟨i1, i2⟩ := hI.out
    clear hI
    by_cases hlt : k < l.length
    · obtain ⟨b, o, rfl, hc0, hc1⟩ := hA.out k hlt
      have hc0 := cell_more i2 hc0
      have hc1 := cell_more i2 hc1
      have hbl := World.block_lt_of_cell? wr _ hc0
      have C := ri1_any l[k] wr
      obtain ⟨⟨x, y⟩, hx⟩ : ∃ x, x = l[k] := ⟨_, rfl⟩
      rw [← hx] at hc0 hc1 C
      simp only at hc0 hc1 C
      cases hs : dirOk (x, y) with
      | true =>
        rw [hs] at C
        replace C := Lib.hid C
        replace i1 := Lib.hid i1
        replace i2 := Lib.hid i2
        replace hx := Lib.hid hx
        replace hs := Lib.hid hs
        go_wp2_with fail
        refine C.out.mono ?_
        rintro e w1 ⟨rfl, hb⟩
        replace hb := Lib.hid hb
        go_wp2
        go_roundg (l.length - (k + 1))
        case rel =>
          refine ⟨k + 1, by omega, by go_num, fun j hj hl => ?_, i2.out.trans (hb.out.mono i2.out.size)⟩
          by_cases e : j = k
          · subst e; rw [← hx.out]; exact hs.out
          · exact i1.out j (by omega) hl
        case measure => omega
      | false =>
        rw [hs] at C
        have hal1 : al = false := hal.out.trans (all_split dirOk l k hlt (fun j hj => i1 j hj (by omega)) (by rw [← hx]; exact hs))
        replace C := Lib.hid C
        replace hx := Lib.hid hx
        replace hal1 := Lib.hid hal1
        replace i2 := Lib.hid i2
        clear i1 hs
        go_wp2_with fail
        refine C.out.mono ?_
        rintro e w1 ⟨rfl, hb⟩
        replace hb := Lib.hid hb
        go_wp2
        go_ret
        exact ⟨(k : Int), rfl, by rw [hal1.out]; simp, i2.out.trans (hb.out.mono i2.out.size)⟩
    · obtain rfl : k = l.length := by omega
      have hal1 : al = true := hal.out.trans (all_done dirOk l (fun j hj => i1 j hj hj))
      replace hal1 := Lib.hid hal1
      replace i2 := Lib.hid i2
      clear i1
      go_wp2
      go_ret
      exact ⟨-1, rfl, by rw [hal1.out]; decide, i2.out⟩
theorem cod_any (v : Value) (l : List (Int × Int)) (w : World) (h : IsD w v l) (hl : l.length ≤ 1000000) :
    Calls Tryd.prog 87 #[v, .func (.func 88) #[] #[]] w fun e w' => e = .returned (.bool (!l.all dirOk)) ∧ Below w.heap.size w w' := by
  have C := Lib.hid (ixd_any v l w h hl)
  go_enter Tryd.func87, Tryd.ntmps87
  go_wp2_with fail
  refine C.out.mono ?_
  rintro e w1 ⟨k, rfl, hk, hb⟩
  replace hb := Lib.hid hb
  go_wp2
  go_ret
  exact ⟨rfl, hb.out⟩
end Go.Proofs.YtofejnhnnmnfpaaDoor.Rc
