/- Which cells, which patches may be. No condition. -/
import Derived.Test.YtofejnhnnmnfpaaDoorRecR
namespace Go.Proofs.YtofejnhnnmnfpaaDoor.Rc
set_option maxRecDepth 100000
open Go.RowKit
theorem mk_ne (l : List UInt8) (h : l ≠ []) : l.isEmpty = false ∧ l.isEmpty = false := by
  have : l.isEmpty = false := by simpa using h
  exact ⟨this, this⟩
theorem key_any (s : List UInt8) (w : World) : Calls Tryd.prog 94 #[.string (mk s)] w fun e w' => e = .returned (.bool (decide (s ≠ []) && decide (s.length ≤ 16))) ∧ w = w' := by
  by_cases h : s = []
  · subst h
    go_enter Tryd.func94, Tryd.ntmps94
    go_wp2
    go_ret
    exact ⟨rfl, rfl⟩
  · obtain ⟨e0, e1⟩ := mk_ne s h
    have hsz := mk_size s
    by_cases h1 : s.length ≤ 16
    · have h2 : (((mk s).size : Nat) : Int) ≤ 16 := by omega
      rw [show (decide (s ≠ []) && decide (s.length ≤ 16)) = true by simp [h, h1]]
      clear hsz h1
      go_enter Tryd.func94, Tryd.ntmps94
      go_wp2
      go_ret
      exact ⟨rfl, rfl⟩
    · have h2 : ¬ (((mk s).size : Nat) : Int) ≤ 16 := by omega
      rw [show (decide (s ≠ []) && decide (s.length ≤ 16)) = false by simp [h1]]
      clear hsz h1
      go_enter Tryd.func94, Tryd.ntmps94
      go_wp2
      go_ret
      exact ⟨rfl, rfl⟩
set_option maxRecDepth 100000 in
set_option maxHeartbeats 1600000 in
theorem cell_any (c : Cl) (w : World) : Calls Tryd.prog 84 #[.agg #[.string (mk c.key), .string (mk c.val), .int .i64 c.blob, .int .i64 c.size]] w fun e w' => e = .returned (.bool (cellOk c)) ∧ Below w.heap.size w w' := by
  obtain ⟨key, val, blob, size⟩ := c
  simp only
  have K := fun w => key_any key w
  have hsz := mk_size val
  obtain ⟨r, hr⟩ : ∃ r, r = cellOk ⟨key, val, blob, size⟩ := ⟨_, rfl⟩
  rw [← hr]
  simp only [cellOk] at hr
  cases hk : (decide (key ≠ []) && decide (key.length ≤ 16)) with
  | false =>
    rw [hk] at hr
    simp only [hk] at K
    simp only [Bool.false_and] at hr
    subst hr
    replace K := Lib.hid K
    clear hk hsz
    go_enter Tryd.func84, Tryd.ntmps84
    go_wp2_with fail
    refine (K.out _).mono ?_
    rintro e w1 ⟨rfl, rfl⟩
    go_wp2
    go_ret
    exact ⟨rfl, (Below.refl _ _).alloc (Nat.le_refl _) _⟩
  | true =>
    rw [hk] at hr
    simp only [hk] at K
    simp only [Bool.true_and] at hr
    replace K := Lib.hid K
    clear hk
    by_cases hb : blob = 0
    · rw [if_pos hb] at hr
      subst hb
      by_cases h1 : val.length ≤ 40
      · have h2 : (((mk val).size : Nat) : Int) ≤ 40 := by omega
        by_cases h3 : size = 0
        · subst h3
          rw [show r = true by rw [hr]; simp [h1]]
          clear hr h1 hsz
          go_enter Tryd.func84, Tryd.ntmps84
          go_wp2_with fail
          refine (K.out _).mono ?_
          rintro e w1 ⟨rfl, rfl⟩
          go_wp2
          go_ret
          exact ⟨rfl, (Below.refl _ _).alloc (Nat.le_refl _) _⟩
        · have h4 : (size == 0) = false := by rw [beq_eq_false_iff_ne]; exact h3
          rw [show r = false by rw [hr]; simp [h3]]
          clear hr h1 hsz h3
          go_enter Tryd.func84, Tryd.ntmps84
          go_wp2_with fail
          refine (K.out _).mono ?_
          rintro e w1 ⟨rfl, rfl⟩
          go_wp2
          go_ret
          exact ⟨rfl, (Below.refl _ _).alloc (Nat.le_refl _) _⟩
      · have h2 : ¬ (((mk val).size : Nat) : Int) ≤ 40 := by omega
        rw [show r = false by rw [hr]; simp [h1]]
        clear hr h1 hsz
        go_enter Tryd.func84, Tryd.ntmps84
        go_wp2_with fail
        refine (K.out _).mono ?_
        rintro e w1 ⟨rfl, rfl⟩
        go_wp2
        go_ret
        exact ⟨rfl, (Below.refl _ _).alloc (Nat.le_refl _) _⟩
    · rw [if_neg hb] at hr
      have hb' : (blob == 0) = false := by rw [beq_eq_false_iff_ne]; exact hb
      by_cases c1 : 2 ≤ blob
      case neg =>
        rw [show r = false by rw [hr]; simp [c1]]
        clear hr hsz hb
        go_enter Tryd.func84, Tryd.ntmps84
        go_wp2_with fail
        refine (K.out _).mono ?_
        rintro e w1 ⟨rfl, rfl⟩
        go_wp2
        go_ret
        exact ⟨rfl, (Below.refl _ _).alloc (Nat.le_refl _) _⟩
      by_cases c2 : blob < 64
      case neg =>
        rw [show r = false by rw [hr]; simp [c2]]
        clear hr hsz hb
        go_enter Tryd.func84, Tryd.ntmps84
        go_wp2_with fail
        refine (K.out _).mono ?_
        rintro e w1 ⟨rfl, rfl⟩
        go_wp2
        go_ret
        exact ⟨rfl, (Below.refl _ _).alloc (Nat.le_refl _) _⟩
      by_cases c3 : val = []
      case neg =>
        rw [show r = false by rw [hr]; simp [c3]]
        obtain ⟨e0, e1⟩ := mk_ne val c3
        clear hr hsz hb
        go_enter Tryd.func84, Tryd.ntmps84
        go_wp2_with fail
        refine (K.out _).mono ?_
        rintro e w1 ⟨rfl, rfl⟩
        go_wp2
        go_ret
        exact ⟨rfl, (Below.refl _ _).alloc (Nat.le_refl _) _⟩
      subst c3
      by_cases c4 : 40 < size
      case neg =>
        rw [show r = false by rw [hr]; simp [c4]]
        clear hr hsz hb
        go_enter Tryd.func84, Tryd.ntmps84
        go_wp2_with fail
        refine (K.out _).mono ?_
        rintro e w1 ⟨rfl, rfl⟩
        go_wp2
        go_ret
        exact ⟨rfl, (Below.refl _ _).alloc (Nat.le_refl _) _⟩
      rw [show r = decide (size ≤ 400) by rw [hr]; simp [c1, c2, c4]]
      clear hr hsz hb
      go_enter Tryd.func84, Tryd.ntmps84
      go_wp2_with fail
      refine (K.out _).mono ?_
      rintro e w1 ⟨rfl, rfl⟩
      go_wp2
      go_ret
      exact ⟨rfl, (Below.refl _ _).alloc (Nat.le_refl _) _⟩
set_option maxRecDepth 100000 in
set_option maxHeartbeats 1600000 in
theorem pat_any (p : Pt) (w : World) : Calls Tryd.prog 86 #[.agg #[.int .i64 p.page, .int .i64 p.at_, .string (mk p.bytes)]] w fun e w' => e = .returned (.bool (patOk p)) ∧ Below w.heap.size w w' := by
  obtain ⟨page, at_, bytes⟩ := p
  simp only
  have hsz := mk_size bytes
  obtain ⟨r, hr⟩ : ∃ r, r = patOk ⟨page, at_, bytes⟩ := ⟨_, rfl⟩
  rw [← hr]
  simp only [patOk] at hr
  by_cases c0 : 0 ≤ page
  case neg =>
    rw [show r = false by rw [hr]; simp [c0]]
    clear hr hsz
    go_enter Tryd.func86, Tryd.ntmps86
    go_wp2
    go_ret
    exact ⟨rfl, (Below.refl _ _).alloc (Nat.le_refl _) _⟩
  by_cases c1 : page < 64
  case neg =>
    rw [show r = false by rw [hr]; simp [c1]]
    clear hr hsz
    go_enter Tryd.func86, Tryd.ntmps86
    go_wp2
    go_ret
    exact ⟨rfl, (Below.refl _ _).alloc (Nat.le_refl _) _⟩
  by_cases c2 : 0 ≤ at_
  case neg =>
    rw [show r = false by rw [hr]; simp [c2]]
    clear hr hsz
    go_enter Tryd.func86, Tryd.ntmps86
    go_wp2
    go_ret
    exact ⟨rfl, (Below.refl _ _).alloc (Nat.le_refl _) _⟩
  by_cases c3 : at_ < 256
  case neg =>
    rw [show r = false by rw [hr]; simp [c3]]
    clear hr hsz
    go_enter Tryd.func86, Tryd.ntmps86
    go_wp2
    go_ret
    exact ⟨rfl, (Below.refl _ _).alloc (Nat.le_refl _) _⟩
  by_cases c4 : bytes = []
  · subst c4
    rw [show r = false by rw [hr]; simp]
    clear hr hsz
    go_enter Tryd.func86, Tryd.ntmps86
    go_wp2
    go_ret
    exact ⟨rfl, (Below.refl _ _).alloc (Nat.le_refl _) _⟩
  obtain ⟨e0, e1⟩ := mk_ne bytes c4
  by_cases c5 : (bytes.length : Int) ≤ 256 - at_
  · have h2 : (((mk bytes).size : Nat) : Int) ≤ 256 - at_ := by omega
    rw [show r = true by rw [hr]; simp [c0, c1, c2, c3, c4, c5]]
    clear hr hsz c5
    go_enter Tryd.func86, Tryd.ntmps86
    go_wp2
    go_ret
    exact ⟨rfl, (Below.refl _ _).alloc (Nat.le_refl _) _⟩
  · have h2 : ¬ (((mk bytes).size : Nat) : Int) ≤ 256 - at_ := by omega
    rw [show r = false by rw [hr]; simp [c5]]
    clear hr hsz c5
    go_enter Tryd.func86, Tryd.ntmps86
    go_wp2
    go_ret
    exact ⟨rfl, (Below.refl _ _).alloc (Nat.le_refl _) _⟩
end Go.Proofs.YtofejnhnnmnfpaaDoor.Rc
