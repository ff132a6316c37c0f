/- Which log records may be. No condition but the table of spaces. -/
import Derived.Test.YtofejnhnnmnfpaaDoorRNs
import Derived.Deep.LoopGhost
import Derived.BigQuiet
import Derived.Deep.QuietTactic
import Derived.Deep.RegionHeld3
namespace Go.Proofs.YtofejnhnnmnfpaaDoor.Rc
set_option maxRecDepth 100000
open Go.RowKit
theorem in_any (v most : Int) (w : World) : Calls Tryd.prog 83 #[.int .i64 v, .int .i64 most] w fun e w' => e = .returned (.bool (decide (0 ≤ v) && decide (v ≤ most))) ∧ w = w' := by
  by_cases h : 0 ≤ v
  · go_enter Tryd.func83, Tryd.ntmps83
    go_wp2
    go_ret
    exact ⟨by simp [h], rfl⟩
  · have hd : decide (0 ≤ v) = false := by simpa using h
    go_enter Tryd.func83, Tryd.ntmps83
    go_wp2
    go_ret
    exact ⟨by simp, rfl⟩
theorem in_short (v : Int) (w : World) : Calls Tryd.prog 83 #[.int .i64 v, .int .i64 65535] w fun e w' => e = .returned (.bool (short v)) ∧ w = w' := in_any v 65535 w
theorem in_long (v : Int) (w : World) : Calls Tryd.prog 83 #[.int .i64 v, .int .i64 4294967295] w fun e w' => e = .returned (.bool (long v)) ∧ w = w' := in_any v 4294967295 w
theorem pg1_any (n : Int) (w : World) : Calls Tryd.prog 96 #[.int .i64 n] w fun e w' => e = .returned (.bool (!short n)) ∧ w = w' := by
  have C := Lib.hid (in_short n w)
  go_enter Tryd.func96, Tryd.ntmps96
  go_wp2_with fail
  refine C.out.mono ?_
  rintro e w1 ⟨rfl, rfl⟩
  go_wp2
  go_ret
  exact ⟨rfl, rfl⟩
theorem ri1_any (d : Int × Int) (w : World) : Calls Tryd.prog 88 #[.agg #[.int .i64 d.1, .int .i64 d.2]] w fun e w' => e = .returned (.bool (!dirOk d)) ∧ Below w.heap.size w w' := by
  obtain ⟨x, y⟩ := d
  have hC := fun w => in_short x w
  have hD := fun w => in_long y w
  obtain ⟨r, hr⟩ : ∃ r, r = dirOk (x, y) := ⟨_, rfl⟩
  rw [← hr]
  simp only [dirOk] at hr
  cases hs : short x with
  | true =>
    rw [hs, Bool.true_and] at hr
    rw [← hr] at hD
    simp only [hs] at hC
    replace hC := Lib.hid hC
    replace hD := Lib.hid hD
    clear hr
    go_enter Tryd.func88, Tryd.ntmps88
    go_wp2_with fail
    refine (hC.out _).mono ?_
    rintro e w1 ⟨rfl, rfl⟩
    go_wp2_with fail
    refine (hD.out _).mono ?_
    rintro e w1 ⟨rfl, rfl⟩
    go_wp2
    go_ret
    exact ⟨rfl, (Below.refl _ _).alloc (Nat.le_refl _) _⟩
  | false =>
    rw [hs, Bool.false_and] at hr
    subst hr
    simp only [hs] at hC
    replace hC := Lib.hid hC
    clear hD
    go_enter Tryd.func88, Tryd.ntmps88
    go_wp2_with fail
    refine (hC.out _).mono ?_
    rintro e w1 ⟨rfl, rfl⟩
    go_wp2
    go_ret
    exact ⟨rfl, (Below.refl _ _).alloc (Nat.le_refl _) _⟩
theorem all_split {α : Type} (p : α → Bool) (l : List α) (k : Nat) (h : k < l.length) (_ : ∀ j (hj : j < k), p (l[j]'(by omega)) = true) (hp : p l[k] = false) : l.all p = false := by
  rw [Bool.eq_false_iff]
  intro e
  rw [List.all_eq_true] at e
  have := e _ (List.getElem_mem h)
  rw [hp] at this
  cases this
theorem all_done {α : Type} (p : α → Bool) (l : List α) (hk : ∀ j (hj : j < l.length), p (l[j]) = true) : l.all p = true := by
  rw [List.all_eq_true]
  intro x hx
  obtain ⟨j, hj, rfl⟩ := List.getElem_of_mem hx
  exact hk j hj
set_option maxRecDepth 100000 in
theorem ixi_any (v : Value) (l : List Int) (w : World) (h : IsI w v l) (hl : l.length ≤ 1000000) :
    Calls Tryd.prog 100 #[v, .func (.func 96) #[] #[]] w fun e w' => ∃ k : Int, e = .returned (.int .i64 k) ∧ decide (0 ≤ k) = !l.all short ∧ w = w' := by
  obtain ⟨a, c, rfl, hA⟩ := h
  replace hA := Lib.hid hA
  obtain ⟨al, hal⟩ : ∃ al, al = l.all short := ⟨_, rfl⟩
  rw [← hal]
  replace hal := Lib.hid hal
  go_enter Tryd.func100, Tryd.ntmps100
  go_wp2
  go_loopg [8] l.length (fun g i wr => ∃ k : Nat, g + k = l.length ∧ i = .int .i64 k ∧ Aside ((∀ j (hj : j < k) (hl : j < l.length), short l[j] = true) ∧ w = wr))
  case atStart => exact ⟨0, rfl, rfl, fun j hj => by omega, rfl⟩
  case round =>
    obtain ⟨k, hk, rfl, hI⟩ := hrel
    obtain ⟨i1, rfl⟩ := hI.out
    clear hI
    by_cases hlt : k < l.length
    · obtain ⟨b, o, rfl, hc⟩ := hA.out k hlt
      have hbl := World.block_lt_of_cell? w _ hc
      have C := pg1_any l[k] w
      obtain ⟨x, hx⟩ : ∃ x, x = l[k] := ⟨_, rfl⟩
      rw [← hx] at hc C
      cases hs : short x with
      | true =>
        rw [hs] at C
        replace C := Lib.hid C
        replace i1 := Lib.hid i1
        replace hx := Lib.hid hx
        replace hs := Lib.hid hs
        go_wp2_with fail
        refine C.out.mono ?_
        rintro e w1 ⟨rfl, rfl⟩
        go_wp2
        go_roundg (l.length - (k + 1))
        case rel =>
          refine ⟨k + 1, by omega, by go_num, fun j hj hl => ?_, rfl⟩
          by_cases e : j = k
          · subst e; rw [← hx.out]; exact hs.out
          · exact i1.out j (by omega) hl
        case measure => omega
      | false =>
        rw [hs] at C
        have hal1 : al = false := hal.out.trans (all_split short l k hlt (fun j hj => i1 j hj (by omega)) (by rw [← hx]; exact hs))
        replace C := Lib.hid C
        replace hx := Lib.hid hx
        replace hal1 := Lib.hid hal1
        clear i1 hs
        go_wp2_with fail
        refine C.out.mono ?_
        rintro e w1 ⟨rfl, rfl⟩
        go_wp2
        go_ret
        exact ⟨(k : Int), rfl, by rw [hal1.out]; simp, rfl⟩
    · obtain rfl : k = l.length := by omega
      have hal1 : al = true := hal.out.trans (all_done short l (fun j hj => i1 j hj hj))
      replace hal1 := Lib.hid hal1
      clear i1
      go_wp2
      go_ret
      exact ⟨-1, rfl, by rw [hal1.out]; decide, rfl⟩
theorem coi_any (v : Value) (l : List Int) (w : World) (h : IsI w v l) (hl : l.length ≤ 1000000) :
    Calls Tryd.prog 95 #[v, .func (.func 96) #[] #[]] w fun e w' => e = .returned (.bool (!l.all short)) ∧ w = w' := by
  have C := Lib.hid (ixi_any v l w h hl)
  go_enter Tryd.func95, Tryd.ntmps95
  go_wp2_with fail
  refine C.out.mono ?_
  rintro e w1 ⟨k, rfl, hk, rfl⟩
  go_wp2
  go_ret
  exact ⟨rfl, rfl⟩
theorem pages_any (v : Value) (l : List Int) (w : World) (h : IsI w v l) :
    Calls Tryd.prog 85 #[v] w fun e w' => e = .returned (.bool (pagesOk l)) ∧ w = w' := by
  have hmf : ∀ (fn : Fn) (first cap : Array Value) (w : World), (Instr.makeFunc fn first cap).run Tryd.prog w = .ok (.func fn first cap) w := fun _ _ _ _ => rfl
  by_cases hl : (l.length : Int) ≤ 64
  · have C := coi_any v l w h (by omega)
    obtain ⟨r, hr⟩ : ∃ r, r = pagesOk l := ⟨_, rfl⟩
    have hr2 : r = l.all short := by rw [hr]; simp [pagesOk]; omega
    rw [← hr]
    rw [← hr2] at C
    replace C := Lib.hid C
    obtain ⟨a, c, rfl, hA⟩ := h
    clear hr hr2 hA
    go_enter Tryd.func85, Tryd.ntmps85
    go_wp2_with fail
    refine C.out.mono ?_
    rintro e w1 ⟨rfl, rfl⟩
    go_wp2
    go_ret
    exact ⟨rfl, rfl⟩
  · have hr : pagesOk l = false := by
      have : ¬ l.length ≤ 64 := by omega
      simp [pagesOk, this]
    rw [hr]
    obtain ⟨a, c, rfl, hA⟩ := h
    clear hr hA
    go_enter Tryd.func85, Tryd.ntmps85
    go_wp2
    go_ret
    exact ⟨rfl, rfl⟩
set_option maxRecDepth 100000 in
theorem ixd_any (v : Value) (l : List (Int × Int)) (w : World) (h : IsD w v l) (hl : l.length ≤ 1000000) :
    Calls Tryd.prog 97 #[v, .func (.func 88) #[] #[]] w fun e w' => ∃ k : Int, e = .returned (.int .i64 k) ∧ decide (0 ≤ k) = !l.all dirOk ∧ Below w.heap.size w w' := by
  obtain ⟨a, c, rfl, hA⟩ := h
  replace hA := Lib.hid hA
  obtain ⟨al, hal⟩ : ∃ al, al = l.all dirOk := ⟨_, rfl⟩
  rw [← hal]
  replace hal := Lib.hid hal
  go_enter Tryd.func97, Tryd.ntmps97
  go_wp2
  go_loopg [8] l.length (fun g i wr => ∃ k : Nat, g + k = l.length ∧ i = .int .i64 k ∧ Aside ((∀ j (hj : j < k) (hl : j < l.length), dirOk l[j] = true) ∧ Below w.heap.size w wr))
  case atStart => exact ⟨0, rfl, rfl, fun j hj => by omega, Below.refl _ _⟩
  case round =>
    obtain ⟨k, hk, rfl, hI⟩ := hrel
    obtain ⟨i1, i2⟩ := hI.out
    clear hI
    by_cases hlt : k < l.length
    · obtain ⟨b, o, rfl, hc0, hc1⟩ := hA.out k hlt
      have hc0 := cell_more i2 hc0
      have hc1 := cell_more i2 hc1
      have hbl := World.block_lt_of_cell? wr _ hc0
      have C := ri1_any l[k] wr
      obtain ⟨⟨x, y⟩, hx⟩ : ∃ x, x = l[k] := ⟨_, rfl⟩
      rw [← hx] at hc0 hc1 C
      simp only at hc0 hc1 C
      cases hs : dirOk (x, y) with
      | true =>
        rw [hs] at C
        replace C := Lib.hid C
        replace i1 := Lib.hid i1
        replace i2 := Lib.hid i2
        replace hx := Lib.hid hx
        replace hs := Lib.hid hs
        go_wp2_with fail
        refine C.out.mono ?_
        rintro e w1 ⟨rfl, hb⟩
        replace hb := Lib.hid hb
        go_wp2
        go_roundg (l.length - (k + 1))
        case rel =>
          refine ⟨k + 1, by omega, by go_num, fun j hj hl => ?_, i2.out.trans (hb.out.mono i2.out.size)⟩
          by_cases e : j = k
          · subst e; rw [← hx.out]; exact hs.out
          · exact i1.out j (by omega) hl
        case measure => omega
      | false =>
        rw [hs] at C
        have hal1 : al = false := hal.out.trans (all_split dirOk l k hlt (fun j hj => i1 j hj (by omega)) (by rw [← hx]; exact hs))
        replace C := Lib.hid C
        replace hx := Lib.hid hx
        replace hal1 := Lib.hid hal1
        replace i2 := Lib.hid i2
        clear i1 hs
        go_wp2_with fail
        refine C.out.mono ?_
        rintro e w1 ⟨rfl, hb⟩
        replace hb := Lib.hid hb
        go_wp2
        go_ret
        exact ⟨(k : Int), rfl, by rw [hal1.out]; simp, i2.out.trans (hb.out.mono i2.out.size)⟩
    · obtain rfl : k = l.length := by omega
      have hal1 : al = true := hal.out.trans (all_done dirOk l (fun j hj => i1 j hj hj))
      replace hal1 := Lib.hid hal1
      replace i2 := Lib.hid i2
      clear i1
      go_wp2
      go_ret
      exact ⟨-1, rfl, by rw [hal1.out]; decide, i2.out⟩
theorem cod_any (v : Value) (l : List (Int × Int)) (w : World) (h : IsD w v l) (hl : l.length ≤ 1000000) :
    Calls Tryd.prog 87 #[v, .func (.func 88) #[] #[]] w fun e w' => e = .returned (.bool (!l.all dirOk)) ∧ Below w.heap.size w w' := by
  have C := Lib.hid (ixd_any v l w h hl)
  go_enter Tryd.func87, Tryd.ntmps87
  go_wp2_with fail
  refine C.out.mono ?_
  rintro e w1 ⟨k, rfl, hk, hb⟩
  replace hb := Lib.hid hb
  go_wp2
  go_ret
  exact ⟨rfl, hb.out⟩
end Go.Proofs.YtofejnhnnmnfpaaDoor.Rc
/- Which cells, which patches may be. No condition. -/
namespace Go.Proofs.YtofejnhnnmnfpaaDoor.Rc
set_option maxRecDepth 100000
open Go.RowKit
theorem mk_ne (l : List UInt8) (h : l ≠ []) : l.isEmpty = false ∧ l.isEmpty = false := by
  have : l.isEmpty = false := by simpa using h
  exact ⟨this, this⟩
theorem key_any (s : List UInt8) (w : World) : Calls Tryd.prog 94 #[.string (mk s)] w fun e w' => e = .returned (.bool (decide (s ≠ []) && decide (s.length ≤ 16))) ∧ w = w' := by
  by_cases h : s = []
  · subst h
    go_enter Tryd.func94, Tryd.ntmps94
    go_wp2
    go_ret
    exact ⟨rfl, rfl⟩
  · obtain ⟨e0, e1⟩ := mk_ne s h
    have hsz := mk_size s
    by_cases h1 : s.length ≤ 16
    · have h2 : (((mk s).size : Nat) : Int) ≤ 16 := by omega
      rw [show (decide (s ≠ []) && decide (s.length ≤ 16)) = true by simp [h, h1]]
      clear hsz h1
      go_enter Tryd.func94, Tryd.ntmps94
      go_wp2
      go_ret
      exact ⟨rfl, rfl⟩
    · have h2 : ¬ (((mk s).size : Nat) : Int) ≤ 16 := by omega
      rw [show (decide (s ≠ []) && decide (s.length ≤ 16)) = false by simp [h1]]
      clear hsz h1
      go_enter Tryd.func94, Tryd.ntmps94
      go_wp2
      go_ret
      exact ⟨rfl, rfl⟩
set_option maxRecDepth 100000 in
set_option maxHeartbeats 1600000 in
theorem cell_any (c : Cl) (w : World) : Calls Tryd.prog 84 #[.agg #[.string (mk c.key), .string (mk c.val), .int .i64 c.blob, .int .i64 c.size]] w fun e w' => e = .returned (.bool (cellOk c)) ∧ Below w.heap.size w w' := by
  obtain ⟨key, val, blob, size⟩ := c
  simp only
  have K := fun w => key_any key w
  have hsz := mk_size val
  obtain ⟨r, hr⟩ : ∃ r, r = cellOk ⟨key, val, blob, size⟩ := ⟨_, rfl⟩
  rw [← hr]
  simp only [cellOk] at hr
  cases hk : (decide (key ≠ []) && decide (key.length ≤ 16)) with
  | false =>
    rw [hk] at hr
    simp only [hk] at K
    simp only [Bool.false_and] at hr
    subst hr
    replace K := Lib.hid K
    clear hk hsz
    go_enter Tryd.func84, Tryd.ntmps84
    go_wp2_with fail
    refine (K.out _).mono ?_
    rintro e w1 ⟨rfl, rfl⟩
    go_wp2
    go_ret
    exact ⟨rfl, (Below.refl _ _).alloc (Nat.le_refl _) _⟩
  | true =>
    rw [hk] at hr
    simp only [hk] at K
    simp only [Bool.true_and] at hr
    replace K := Lib.hid K
    clear hk
    by_cases hb : blob = 0
    · rw [if_pos hb] at hr
      subst hb
      by_cases h1 : val.length ≤ 40
      · have h2 : (((mk val).size : Nat) : Int) ≤ 40 := by omega
        by_cases h3 : size = 0
        · subst h3
          rw [show r = true by rw [hr]; simp [h1]]
          clear hr h1 hsz
          go_enter Tryd.func84, Tryd.ntmps84
          go_wp2_with fail
          refine (K.out _).mono ?_
          rintro e w1 ⟨rfl, rfl⟩
          go_wp2
          go_ret
          exact ⟨rfl, (Below.refl _ _).alloc (Nat.le_refl _) _⟩
        · have h4 : (size == 0) = false := by rw [beq_eq_false_iff_ne]; exact h3
          rw [show r = false by rw [hr]; simp [h3]]
          clear hr h1 hsz h3
          go_enter Tryd.func84, Tryd.ntmps84
          go_wp2_with fail
          refine (K.out _).mono ?_
          rintro e w1 ⟨rfl, rfl⟩
          go_wp2
          go_ret
          exact ⟨rfl, (Below.refl _ _).alloc (Nat.le_refl _) _⟩
      · have h2 : ¬ (((mk val).size : Nat) : Int) ≤ 40 := by omega
        rw [show r = false by rw [hr]; simp [h1]]
        clear hr h1 hsz
        go_enter Tryd.func84, Tryd.ntmps84
        go_wp2_with fail
        refine (K.out _).mono ?_
        rintro e w1 ⟨rfl, rfl⟩
        go_wp2
        go_ret
        exact ⟨rfl, (Below.refl _ _).alloc (Nat.le_refl _) _⟩
    · rw [if_neg hb] at hr
      have hb' : (blob == 0) = false := by rw [beq_eq_false_iff_ne]; exact hb
      by_cases c1 : 2 ≤ blob
      case neg =>
        rw [show r = false by rw [hr]; simp [c1]]
        clear hr hsz hb
        go_enter Tryd.func84, Tryd.ntmps84
        go_wp2_with fail
        refine (K.out _).mono ?_
        rintro e w1 ⟨rfl, rfl⟩
        go_wp2
        go_ret
        exact ⟨rfl, (Below.refl _ _).alloc (Nat.le_refl _) _⟩
      by_cases c2 : blob < 64
      case neg =>
        rw [show r = false by rw [hr]; simp [c2]]
        clear hr hsz hb
        go_enter Tryd.func84, Tryd.ntmps84
        go_wp2_with fail
        refine (K.out _).mono ?_
        rintro e w1 ⟨rfl, rfl⟩
        go_wp2
        go_ret
        exact ⟨rfl, (Below.refl _ _).alloc (Nat.le_refl _) _⟩
      by_cases c3 : val = []
      case neg =>
        rw [show r = false by rw [hr]; simp [c3]]
        obtain ⟨e0, e1⟩ := mk_ne val c3
        clear hr hsz hb
        go_enter Tryd.func84, Tryd.ntmps84
        go_wp2_with fail
        refine (K.out _).mono ?_
        rintro e w1 ⟨rfl, rfl⟩
        go_wp2
        go_ret
        exact ⟨rfl, (Below.refl _ _).alloc (Nat.le_refl _) _⟩
      subst c3
      by_cases c4 : 40 < size
      case neg =>
        rw [show r = false by rw [hr]; simp [c4]]
        clear hr hsz hb
        go_enter Tryd.func84, Tryd.ntmps84
        go_wp2_with fail
        refine (K.out _).mono ?_
        rintro e w1 ⟨rfl, rfl⟩
        go_wp2
        go_ret
        exact ⟨rfl, (Below.refl _ _).alloc (Nat.le_refl _) _⟩
      rw [show r = decide (size ≤ 400) by rw [hr]; simp [c1, c2, c4]]
      clear hr hsz hb
      go_enter Tryd.func84, Tryd.ntmps84
      go_wp2_with fail
      refine (K.out _).mono ?_
      rintro e w1 ⟨rfl, rfl⟩
      go_wp2
      go_ret
      exact ⟨rfl, (Below.refl _ _).alloc (Nat.le_refl _) _⟩
set_option maxRecDepth 100000 in
set_option maxHeartbeats 1600000 in
theorem pat_any (p : Pt) (w : World) : Calls Tryd.prog 86 #[.agg #[.int .i64 p.page, .int .i64 p.at_, .string (mk p.bytes)]] w fun e w' => e = .returned (.bool (patOk p)) ∧ Below w.heap.size w w' := by
  obtain ⟨page, at_, bytes⟩ := p
  simp only
  have hsz := mk_size bytes
  obtain ⟨r, hr⟩ : ∃ r, r = patOk ⟨page, at_, bytes⟩ := ⟨_, rfl⟩
  rw [← hr]
  simp only [patOk] at hr
  by_cases c0 : 0 ≤ page
  case neg =>
    rw [show r = false by rw [hr]; simp [c0]]
    clear hr hsz
    go_enter Tryd.func86, Tryd.ntmps86
    go_wp2
    go_ret
    exact ⟨rfl, (Below.refl _ _).alloc (Nat.le_refl _) _⟩
  by_cases c1 : page < 64
  case neg =>
    rw [show r = false by rw [hr]; simp [c1]]
    clear hr hsz
    go_enter Tryd.func86, Tryd.ntmps86
    go_wp2
    go_ret
    exact ⟨rfl, (Below.refl _ _).alloc (Nat.le_refl _) _⟩
  by_cases c2 : 0 ≤ at_
  case neg =>
    rw [show r = false by rw [hr]; simp [c2]]
    clear hr hsz
    go_enter Tryd.func86, Tryd.ntmps86
    go_wp2
    go_ret
    exact ⟨rfl, (Below.refl _ _).alloc (Nat.le_refl _) _⟩
  by_cases c3 : at_ < 256
  case neg =>
    rw [show r = false by rw [hr]; simp [c3]]
    clear hr hsz
    go_enter Tryd.func86, Tryd.ntmps86
    go_wp2
    go_ret
    exact ⟨rfl, (Below.refl _ _).alloc (Nat.le_refl _) _⟩
  by_cases c4 : bytes = []
  · subst c4
    rw [show r = false by rw [hr]; simp]
    clear hr hsz
    go_enter Tryd.func86, Tryd.ntmps86
    go_wp2
    go_ret
    exact ⟨rfl, (Below.refl _ _).alloc (Nat.le_refl _) _⟩
  obtain ⟨e0, e1⟩ := mk_ne bytes c4
  by_cases c5 : (bytes.length : Int) ≤ 256 - at_
  · have h2 : (((mk bytes).size : Nat) : Int) ≤ 256 - at_ := by omega
    rw [show r = true by rw [hr]; simp [c0, c1, c2, c3, c4, c5]]
    clear hr hsz c5
    go_enter Tryd.func86, Tryd.ntmps86
    go_wp2
    go_ret
    exact ⟨rfl, (Below.refl _ _).alloc (Nat.le_refl _) _⟩
  · have h2 : ¬ (((mk bytes).size : Nat) : Int) ≤ 256 - at_ := by omega
    rw [show r = false by rw [hr]; simp [c5]]
    clear hr hsz c5
    go_enter Tryd.func86, Tryd.ntmps86
    go_wp2
    go_ret
    exact ⟨rfl, (Below.refl _ _).alloc (Nat.le_refl _) _⟩
end Go.Proofs.YtofejnhnnmnfpaaDoor.Rc
/- A writer of the call's own beside other memory of the call's own. No condition. -/
namespace Go.Proofs.YtofejnhnnmnfpaaDoor.Rc
set_option maxRecDepth 100000
open Go.RowKit
/-- A writer that is not spoilt (its blocks: H and above, none of K). -/
def WK (H : Nat) (K : Nat → Prop) (w0 w : World) (B : Nat) (xs : List UInt8) : Prop :=
  ∃ row, WAt w B row xs false ∧ H ≤ B ∧ ¬ K B ∧ (∀ k, row = some k → H ≤ k ∧ ¬ K k) ∧ Below H w0 w ∧ H ≤ w.heap.size ∧ ∀ k, K k → k < w.heap.size
theorem WAt.keepK {w w' : World} {A : Nat} {r : Option Nat} {xs : List UInt8} {a : Bool} {S : Nat → Prop} (h : WAt w A r xs a) (c : Chg S w w') (h1 : ¬ S A) (h2 : ∀ k, r = some k → ¬ S k) : WAt w' A r xs a := by
  obtain ⟨v, rfl, hb, hown⟩ := h
  exact ⟨v, rfl, c.heap hb h1, c.row hown h2⟩
theorem WAt.ltK {w : World} {A : Nat} {r : Option Nat} {xs : List UInt8} {a : Bool} (h : WAt w A r xs a) : A < w.heap.size ∧ ∀ k, r = some k → k < w.heap.size := by
  obtain ⟨v, rfl, hb, hown⟩ := h
  exact ⟨lt_of hb, fun k hk => (hown.lt k hk).2⟩
section
variable {H B : Nat} {K K' : Nat → Prop} {w0 w w' : World} {xs ys : List UInt8}
theorem WK.was (h : WK H K w0 w B xs) : Below H w0 w ∧ H ≤ w.heap.size := by obtain ⟨_, _, _, _, _, h1, h2, _⟩ := h; exact ⟨h1, h2⟩
theorem WK.kept {S : Nat → Prop} (h : WK H K w0 w B xs) (hc : Chg S w w') (hS : ∀ k, S k → k < w.heap.size → H ≤ k ∧ K k) : WK H K w0 w' B xs := by
  obtain ⟨row, h1, h2, h3, h4, h5, h6, h7⟩ := h
  obtain ⟨l1, l2⟩ := h1.ltK
  exact ⟨row, h1.keepK hc (fun e => h3 (hS _ e l1).2) (fun k hk e => (h4 k hk).2 (hS k e (l2 k hk)).2), h2, h3, h4, h5.trans (hc.below (fun k hk e => (hS k e hk).1) h6), Nat.le_trans h6 hc.size, fun k hk => Nat.lt_of_lt_of_le (h7 k hk) hc.size⟩
theorem WK.more (h : WK H K w0 w B xs) (hb : Below w.heap.size w w') : WK H K w0 w' B xs := h.kept (S := fun _ => False) (Chg.of_below hb) (fun _ h => h.elim)
theorem WK.widen (h : WK H K w0 w B xs) (o : Obj) : WK H (fun k => K k ∨ k = w.heap.size) w0 (w.alloc o) B xs := by
  obtain ⟨row, h1, h2, h3, h4, h5, h6, h7⟩ := h
  obtain ⟨l1, l2⟩ := h1.ltK
  have hc : Chg (fun _ => False) w (w.alloc o) := (Chg.refl _ w).alloc o
  refine ⟨row, h1.keepK hc id (fun _ _ => id), h2, fun e => e.elim h3 (fun e => by omega), fun k hk => ⟨(h4 k hk).1, fun e => e.elim (h4 k hk).2 (fun e => by have := l2 k hk; omega)⟩, h5.trans (hc.below (fun _ _ h => h.elim) h6), by simp; omega, fun k hk => ?_⟩
  rcases hk with hk | hk
  · have := h7 k hk; simp; omega
  · simp; omega
theorem WK.shrink (h : WK H K w0 w B xs) (hK : ∀ k, K' k → K k) : WK H K' w0 w B xs := by
  obtain ⟨row, h1, h2, h3, h4, h5, h6, h7⟩ := h
  exact ⟨row, h1, h2, fun e => h3 (hK _ e), fun k hk => ⟨(h4 k hk).1, fun e => (h4 k hk).2 (hK k e)⟩, h5, h6, fun k hk => h7 k (hK k hk)⟩
theorem WK.step {row : Option Nat} (h1 : WAt w B row xs false) (h2 : H ≤ B) (h3 : ¬ K B) (h4 : ∀ k, row = some k → H ≤ k ∧ ¬ K k) (h5 : Below H w0 w) (h6 : H ≤ w.heap.size) (h7 : ∀ k, K k → k < w.heap.size) (hp : WPost w w' B row ys false) : WK H K w0 w' B ys ∧ Chg (fun k => ¬ K k) w w' := by
  obtain ⟨row', ha, hc, hr⟩ := hp
  refine ⟨⟨row', ha, h2, h3, fun k hk => ?_, h5.trans (hc.below (fun k _ e => ?_) h6), Nat.le_trans h6 hc.size, fun k hk => Nat.lt_of_lt_of_le (h7 k hk) hc.size⟩, hc.mono (fun k _ e => ?_)⟩
  · rcases hr with rfl | hr
    · exact h4 k hk
    · exact ⟨Nat.le_trans h6 (hr k hk), fun e => by have := h7 k e; have := hr k hk; omega⟩
  · rcases e with rfl | e
    · exact h2
    · exact (h4 k e).1
  · rcases e with rfl | e
    · exact h3
    · exact (h4 k e).2
theorem WK.new (hb : Below H w0 w) (hH : H ≤ w.heap.size) (hK : ∀ k, K k → k < w.heap.size) : WK H K w0 (w.alloc (.cells #[.slice none 0 0, .bool false] 112)) w.heap.size [] :=
  ⟨none, ⟨.slice none 0 0, rfl, heap_alloc_new w _, World.ownsRow_nil _ _ _ _⟩, hH, fun e => by have := hK _ e; omega, (fun _ h => by cases h), hb.alloc hH _, by simp; omega, fun k hk => by have := hK k hk; simp; omega⟩
theorem kNum (x : Int) (hx : short x = true) (hs : xs.length ≤ 1000000) (h : WK H K w0 w B xs) :
    Calls Tryd.prog 63 #[.pointer (some ⟨B, 0, none⟩), .int .i64 x] w fun e w' => e = .returned (.pointer (some ⟨B, 0, none⟩)) ∧ WK H K w0 w' B (xs ++ n2 x) ∧ Chg (fun k => ¬ K k) w w' := by
  obtain ⟨row, h1, h2, h3, h4, h5, h6, h7⟩ := h
  have hx' : 0 ≤ x ∧ x ≤ 65535 := by simpa [short] using hx
  have q : wput 2 x xs false = (xs ++ n2 x, false) := wput_yes (by simp; omega)
  refine (wNum B row xs false x w (by omega) h1).mono fun e w' ⟨he, hp⟩ => ?_
  rw [q] at hp
  exact ⟨he, WK.step h1 h2 h3 h4 h5 h6 h7 hp⟩
theorem kLong (x : Int) (hx : long x = true) (hs : xs.length ≤ 1000000) (h : WK H K w0 w B xs) :
    Calls Tryd.prog 64 #[.pointer (some ⟨B, 0, none⟩), .int .i64 x] w fun e w' => e = .returned (.pointer (some ⟨B, 0, none⟩)) ∧ WK H K w0 w' B (xs ++ n4 x) ∧ Chg (fun k => ¬ K k) w w' := by
  obtain ⟨row, h1, h2, h3, h4, h5, h6, h7⟩ := h
  have hx' : 0 ≤ x ∧ x ≤ 4294967295 := by simpa [long] using hx
  have q : wput 4 x xs false = (xs ++ n4 x, false) := wput_yes (by simp; omega)
  refine (wLong B row xs false x w (by omega) h1).mono fun e w' ⟨he, hp⟩ => ?_
  rw [q] at hp
  exact ⟨he, WK.step h1 h2 h3 h4 h5 h6 h7 hp⟩
theorem kText (s : List UInt8) (hl : s.length < 65536) (hs : xs.length ≤ 1000000) (h : WK H K w0 w B xs) :
    Calls Tryd.prog 65 #[.pointer (some ⟨B, 0, none⟩), .string (mk s)] w fun e w' => e = .returned (.pointer (some ⟨B, 0, none⟩)) ∧ WK H K w0 w' B (xs ++ tt s) ∧ Chg (fun k => ¬ K k) w w' := by
  obtain ⟨row, h1, h2, h3, h4, h5, h6, h7⟩ := h
  have hm : (mk s).data.toList = s := by simp [mk]
  have q : wtext (mk s).data.toList xs false = (xs ++ tt s, false) := by rw [hm, wtext_ok s xs hl, tt, List.append_assoc]
  refine (wText B row xs false (mk s) w (by rw [mk_size]; omega) h1).mono fun e w' ⟨he, hp⟩ => ?_
  rw [q] at hp
  exact ⟨he, WK.step h1 h2 h3 h4 h5 h6 h7 hp⟩
theorem kDone (h : WK H K w0 w B xs) : Calls Tryd.prog 68 #[.pointer (some ⟨B, 0, none⟩)] w fun e w' => e = .returned (.tuple #[.string (mk xs), .bool true]) ∧ w = w' := by
  obtain ⟨row, h1, _⟩ := h
  exact wDone_ok B row xs w h1
theorem n2_length (x : Int) : (n2 x).length = 2 := be_length 2 _
theorem n4_length (x : Int) : (n4 x).length = 4 := be_length 4 _
theorem tt_length (s : List UInt8) : (tt s).length = 2 + s.length := by simp [tt, be_length]
theorem n2_len (n : Nat) : n2 (n : Int) = be 2 n := by simp [n2]
end
/-- A record's numbers, written by the function that has the writer's. -/
theorem flat_len (l : List Int) : (l.flatMap n2).length = 2 * l.length := by
  induction l with
  | nil => rfl
  | cons x l ih => rw [List.flatMap_cons, List.length_append, ih, n2_length, List.length_cons]; omega
set_option maxRecDepth 100000 in
set_option maxHeartbeats 1600000 in
theorem numbers_any {H B nb : Nat} {K : Nat → Prop} {w0 w : World} {xs : List UInt8} (v : Value) (l : List Int) (hok : pagesOk l = true) (hv : IsI w0 v l) (hH : H = w0.heap.size) (hs : xs.length ≤ 500000) (h : WK H K w0 w B xs) (hnb : K nb) (hc : w.cell? ⟨nb, 0, none⟩ = some (.func (.func 63) #[.pointer (some ⟨B, 0, none⟩)] #[])) :
    Calls Tryd.prog 66 #[v, .pointer (some ⟨nb, 0, none⟩)] w fun e w' => e = .returned (.tuple #[]) ∧ WK H K w0 w' B (xs ++ nums l) ∧ Chg (fun k => ¬ K k) w w' := by
  subst hH
  have hok' : l.length ≤ 64 ∧ ∀ x ∈ l, short x = true := by simpa [pagesOk] using hok
  obtain ⟨hl, hall⟩ := hok'
  obtain ⟨a, c, rfl, hA⟩ := hv
  have c1 := kNum (l.length : Int) (by simp [short]; omega) (by omega) h
  have hbl := World.block_lt_of_cell? w _ hc
  replace c1 := Lib.hid c1
  replace hA := Lib.hid hA
  replace hall := Lib.hid hall
  clear h
  go_enter Tryd.func66, Tryd.ntmps66
  go_wp2_with fail
  refine c1.out.mono ?_
  rintro e w1 ⟨rfl, h1, hc1⟩
  rw [n2_len] at h1
  have hcc : ∀ x, Chg (fun k => ¬ K k) w x → x.cell? ⟨nb, 0, none⟩ = some (.func (.func 63) #[.pointer (some ⟨B, 0, none⟩)] #[]) := fun x hx => (World.cell?_of_block (w := w) (hx.block nb hbl (fun e => e hnb))).trans hc
  replace hcc := Lib.hid hcc
  replace h1 := Lib.hid h1
  replace hc1 := Lib.hid hc1
  clear c1
  go_wp2
  go_loopg [11] l.length (fun g i wr => ∃ k : Nat, g + k = l.length ∧ i = .int .i64 k ∧ Aside (WK w0.heap.size K w0 wr B (xs ++ be 2 l.length ++ (l.take k).flatMap n2) ∧ Chg (fun k => ¬ K k) w wr))
  case atStart => exact ⟨0, rfl, rfl, by simpa using h1.out, hc1.out⟩
  case round =>
    obtain ⟨k, hk, rfl, hI⟩ := hrel
    obtain ⟨i1, i2⟩ := hI.out
    clear hI h1 hc1
    by_cases hlt : k < l.length
    · obtain ⟨b, o, rfl, hx⟩ := hA.out k hlt
      have hx2 := cell_more i1.was.1 hx
      have hbx := World.block_lt_of_cell? wr _ hx2
      have hn := hcc.out wr i2
      have hbn := World.block_lt_of_cell? wr _ hn
      have hfl := flat_len (l.take k)
      rw [List.length_take, Nat.min_eq_left (by omega)] at hfl
      have cN := kNum l[k] (hall.out _ (List.getElem_mem hlt)) (by simp [be_length, hfl]; omega) i1
      have htk : (l.take (k + 1)).flatMap n2 = (l.take k).flatMap n2 ++ n2 l[k] := by simp only [List.take_succ_eq_append_getElem hlt, List.flatMap_append, List.flatMap_cons, List.flatMap_nil, List.append_nil]
      rw [List.append_assoc, ← htk] at cN
      obtain ⟨y, hy⟩ : ∃ y, y = l[k] := ⟨_, rfl⟩
      rw [← hy] at cN hx2
      replace cN := Lib.hid cN
      replace i2 := Lib.hid i2
      replace hy := Lib.hid hy
      replace htk := Lib.hid htk
      clear i1 hx hfl
      go_wp2_with fail
      refine cN.out.mono ?_
      rintro e w2 ⟨rfl, h2, hc2⟩
      replace h2 := Lib.hid h2
      replace hc2 := Lib.hid (i2.out.trans hc2 (fun _ _ h => h))
      clear cN i2
      go_wp2
      go_roundg (l.length - (k + 1))
      case rel => exact ⟨k + 1, by omega, by go_num, h2.out, hc2.out⟩
      case measure => omega
    · obtain rfl : k = l.length := by omega
      rw [List.take_length] at i1
      have hfin : WK w0.heap.size K w0 wr B (xs ++ nums l) := by
        have := i1
        rw [List.append_assoc] at this
        exact this
      replace hfin := Lib.hid hfin
      replace i2 := Lib.hid i2
      clear i1
      go_wp2
      go_end0
      exact ⟨rfl, hfin.out, i2.out⟩
end Go.Proofs.YtofejnhnnmnfpaaDoor.Rc
