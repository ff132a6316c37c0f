/- test -/
import Derived.Test.YtikdjbcfckjccaaDoorKW1
namespace Go.Proofs.YtikdjbcfckjccaaDoor
open Go.RowKit
set_option maxHeartbeats 400000 in
theorem put2_ok (B : Nat) (row : Option Nat) (xs : List UInt8) (x : Nat) (w : World) (h1 : x < 65536) (hs : xs.length + 2 ≤ 140737488355328) (hw : WAt w B row xs false) :
    Calls Tryd.prog 44 #[.pointer (some ⟨B, 0, none⟩), .int .i64 x, .int .i64 2] w fun e w' => e = .returned (.pointer (some ⟨B, 0, none⟩)) ∧ WPost w w' B row (xs ++ be 2 x) false := by
  obtain ⟨i, hi, hz0, hz1, hz2⟩ := info_parts Tryd.infoU8
  have hd0 : decide ((x : Int) < 0) = false := by simp
  have hd1 : decide ((65536 : Int) ≤ x) = false := by simp; omega
  have c1 : w.cell? ⟨B, 1, none⟩ = some (.bool false) := by obtain ⟨v, _, hb, _⟩ := hw; exact cell_of hb rfl
  go_enter Tryd.func44, Tryd.ntmps44
  go_wp2
  go_loopw [2] (fun n wr => ∃ k : Nat, k ≤ 2 ∧ n = .int .i64 ((k : Int) - 1) ∧ WPost w wr B row (xs ++ (be 2 x).take (2 - k)) false) (fun n _ => (intOf n + 1).toNat)
  case atStart => exact ⟨2, Nat.le_refl _, rfl, by simpa using WPost.refl hw⟩
  case round =>
    obtain ⟨k, hk, rfl, row', hwr, hchg, hrk⟩ := hrel
    obtain ⟨v, rfl, hb, hown⟩ := hwr
    have f0 : wr.frozen? ⟨B, 0, none⟩ = false := free_of hb
    have c0 : wr.cell? ⟨B, 0, none⟩ = some v := cell_of hb rfl
    have hB : B < wr.heap.size := lt_of hb
    have hlen : (xs ++ (be 2 x).take (2 - k)).length + 1 ≤ 140737488355328 ∨ k = 0 := by
      by_cases k = 0
      · right; assumption
      · left; simp [be]; omega
    rcases (show k = 0 ∨ k = 1 ∨ k = 2 by omega) with rfl | rfl | rfl
    · go_wp2
      go_ret
      exact ⟨rfl, WPost.trans hchg hrk (WPost.refl ⟨v, rfl, hb, by simpa [be] using hown⟩)⟩
    · have hw0 : IntKind.i64.wrap 0 = 0 := by decide
      go_wp2
      go_region_law (refine step_append_own rfl (.tmp 40) (.tmp 46) 44 rfl 0 5 i (.int .u8 0) 1 1 Tryd.underlying44 hi hz0 hz1 hz2 rfl (by decide) v _ _ (by simp [Act.eval, Act.put]) (hown.drew.alloc _) ⟨wr.heap.size, 0, none⟩ 1 1 [.int .u8 (IntKind.u8.wrap ((x : Int)))] (by simp [Act.eval, Act.put]) rfl (by intro j u hj; match j, hj with | 0, hj => (simp at hj; subst hj; simp [Addr.add])) (by intro u hu; simp at hu; subst hu; rfl) (by have := hlen; unfold maxLen; omega) (by have := hlen; omega) (Nat.zero_le _) ?_; intro v' w' hown' hgrow hrow; have hah := WAt.ahead hb hown ((Chg.refl _ _).drew.alloc _) hown' hgrow; obtain ⟨⟨ao', m', cap', rfl⟩, _, hc0', _, hf0'⟩ := hah)
      all_goals
        go_wp2
        go_roundw
        case rel => exact ⟨0, by omega, by simp, WPost.trans hchg hrk ((WAt.stored (ys := [UInt8.ofNat (x / 1)]) hb hown ((Chg.refl _ _).drew.alloc _) (by rw [← byte_cell ((x : Int)) (x / 1) (by omega)]; exact hown') hgrow hrow).of_eq (by simp [be]))⟩
        case measure => simp [intOf]
    · have hw0 : IntKind.i64.wrap 8 = 8 := by decide
      go_wp2
      go_region_law (refine step_append_own rfl (.tmp 40) (.tmp 46) 44 rfl 0 5 i (.int .u8 0) 1 1 Tryd.underlying44 hi hz0 hz1 hz2 rfl (by decide) v _ _ (by simp [Act.eval, Act.put]) (hown.drew.alloc _) ⟨wr.heap.size, 0, none⟩ 1 1 [.int .u8 (IntKind.u8.wrap ((x : Int) / 256))] (by simp [Act.eval, Act.put]) rfl (by intro j u hj; match j, hj with | 0, hj => (simp at hj; subst hj; simp [Addr.add])) (by intro u hu; simp at hu; subst hu; rfl) (by have := hlen; unfold maxLen; omega) (by have := hlen; omega) (Nat.zero_le _) ?_; intro v' w' hown' hgrow hrow; have hah := WAt.ahead hb hown ((Chg.refl _ _).drew.alloc _) hown' hgrow; obtain ⟨⟨ao', m', cap', rfl⟩, _, hc0', _, hf0'⟩ := hah)
      all_goals
        go_wp2
        go_roundw
        case rel => exact ⟨1, by omega, by simp, WPost.trans hchg hrk ((WAt.stored (ys := [UInt8.ofNat (x / 256)]) hb hown ((Chg.refl _ _).drew.alloc _) (by rw [← byte_cell ((x : Int) / 256) (x / 256) (by omega)]; exact hown') hgrow hrow).of_eq (by simp [be]))⟩
        case measure => simp [intOf]

set_option maxHeartbeats 400000 in
theorem put4_ok (B : Nat) (row : Option Nat) (xs : List UInt8) (x : Nat) (w : World) (h1 : x < 4294967296) (hs : xs.length + 4 ≤ 140737488355328) (hw : WAt w B row xs false) :
    Calls Tryd.prog 44 #[.pointer (some ⟨B, 0, none⟩), .int .i64 x, .int .i64 4] w fun e w' => e = .returned (.pointer (some ⟨B, 0, none⟩)) ∧ WPost w w' B row (xs ++ be 4 x) false := by
  obtain ⟨i, hi, hz0, hz1, hz2⟩ := info_parts Tryd.infoU8
  have hd0 : decide ((x : Int) < 0) = false := by simp
  have hd1 : decide ((4294967296 : Int) ≤ x) = false := by simp; omega
  have c1 : w.cell? ⟨B, 1, none⟩ = some (.bool false) := by obtain ⟨v, _, hb, _⟩ := hw; exact cell_of hb rfl
  go_enter Tryd.func44, Tryd.ntmps44
  go_wp2
  go_loopw [2] (fun n wr => ∃ k : Nat, k ≤ 4 ∧ n = .int .i64 ((k : Int) - 1) ∧ WPost w wr B row (xs ++ (be 4 x).take (4 - k)) false) (fun n _ => (intOf n + 1).toNat)
  case atStart => exact ⟨4, Nat.le_refl _, rfl, by simpa using WPost.refl hw⟩
  case round =>
    obtain ⟨k, hk, rfl, row', hwr, hchg, hrk⟩ := hrel
    obtain ⟨v, rfl, hb, hown⟩ := hwr
    have f0 : wr.frozen? ⟨B, 0, none⟩ = false := free_of hb
    have c0 : wr.cell? ⟨B, 0, none⟩ = some v := cell_of hb rfl
    have hB : B < wr.heap.size := lt_of hb
    have hlen : (xs ++ (be 4 x).take (4 - k)).length + 1 ≤ 140737488355328 ∨ k = 0 := by
      by_cases k = 0
      · right; assumption
      · left; simp [be]; omega
    rcases (show k = 0 ∨ k = 1 ∨ k = 2 ∨ k = 3 ∨ k = 4 by omega) with rfl | rfl | rfl | rfl | rfl
    · go_wp2
      go_ret
      exact ⟨rfl, WPost.trans hchg hrk (WPost.refl ⟨v, rfl, hb, by simpa [be] using hown⟩)⟩
    · have hw0 : IntKind.i64.wrap 0 = 0 := by decide
      go_wp2
      go_region_law (refine step_append_own rfl (.tmp 40) (.tmp 46) 44 rfl 0 5 i (.int .u8 0) 1 1 Tryd.underlying44 hi hz0 hz1 hz2 rfl (by decide) v _ _ (by simp [Act.eval, Act.put]) (hown.drew.alloc _) ⟨wr.heap.size, 0, none⟩ 1 1 [.int .u8 (IntKind.u8.wrap ((x : Int)))] (by simp [Act.eval, Act.put]) rfl (by intro j u hj; match j, hj with | 0, hj => (simp at hj; subst hj; simp [Addr.add])) (by intro u hu; simp at hu; subst hu; rfl) (by have := hlen; unfold maxLen; omega) (by have := hlen; omega) (Nat.zero_le _) ?_; intro v' w' hown' hgrow hrow; have hah := WAt.ahead hb hown ((Chg.refl _ _).drew.alloc _) hown' hgrow; obtain ⟨⟨ao', m', cap', rfl⟩, _, hc0', _, hf0'⟩ := hah)
      all_goals
        go_wp2
        go_roundw
        case rel => exact ⟨0, by omega, by simp, WPost.trans hchg hrk ((WAt.stored (ys := [UInt8.ofNat (x / 1)]) hb hown ((Chg.refl _ _).drew.alloc _) (by rw [← byte_cell ((x : Int)) (x / 1) (by omega)]; exact hown') hgrow hrow).of_eq (by simp [be]))⟩
        case measure => simp [intOf]
    · have hw0 : IntKind.i64.wrap 8 = 8 := by decide
      go_wp2
      go_region_law (refine step_append_own rfl (.tmp 40) (.tmp 46) 44 rfl 0 5 i (.int .u8 0) 1 1 Tryd.underlying44 hi hz0 hz1 hz2 rfl (by decide) v _ _ (by simp [Act.eval, Act.put]) (hown.drew.alloc _) ⟨wr.heap.size, 0, none⟩ 1 1 [.int .u8 (IntKind.u8.wrap ((x : Int) / 256))] (by simp [Act.eval, Act.put]) rfl (by intro j u hj; match j, hj with | 0, hj => (simp at hj; subst hj; simp [Addr.add])) (by intro u hu; simp at hu; subst hu; rfl) (by have := hlen; unfold maxLen; omega) (by have := hlen; omega) (Nat.zero_le _) ?_; intro v' w' hown' hgrow hrow; have hah := WAt.ahead hb hown ((Chg.refl _ _).drew.alloc _) hown' hgrow; obtain ⟨⟨ao', m', cap', rfl⟩, _, hc0', _, hf0'⟩ := hah)
      all_goals
        go_wp2
        go_roundw
        case rel => exact ⟨1, by omega, by simp, WPost.trans hchg hrk ((WAt.stored (ys := [UInt8.ofNat (x / 256)]) hb hown ((Chg.refl _ _).drew.alloc _) (by rw [← byte_cell ((x : Int) / 256) (x / 256) (by omega)]; exact hown') hgrow hrow).of_eq (by simp [be]))⟩
        case measure => simp [intOf]
    · have hw0 : IntKind.i64.wrap 16 = 16 := by decide
      go_wp2
      go_region_law (refine step_append_own rfl (.tmp 40) (.tmp 46) 44 rfl 0 5 i (.int .u8 0) 1 1 Tryd.underlying44 hi hz0 hz1 hz2 rfl (by decide) v _ _ (by simp [Act.eval, Act.put]) (hown.drew.alloc _) ⟨wr.heap.size, 0, none⟩ 1 1 [.int .u8 (IntKind.u8.wrap ((x : Int) / 65536))] (by simp [Act.eval, Act.put]) rfl (by intro j u hj; match j, hj with | 0, hj => (simp at hj; subst hj; simp [Addr.add])) (by intro u hu; simp at hu; subst hu; rfl) (by have := hlen; unfold maxLen; omega) (by have := hlen; omega) (Nat.zero_le _) ?_; intro v' w' hown' hgrow hrow; have hah := WAt.ahead hb hown ((Chg.refl _ _).drew.alloc _) hown' hgrow; obtain ⟨⟨ao', m', cap', rfl⟩, _, hc0', _, hf0'⟩ := hah)
      all_goals
        go_wp2
        go_roundw
        case rel => exact ⟨2, by omega, by simp, WPost.trans hchg hrk ((WAt.stored (ys := [UInt8.ofNat (x / 65536)]) hb hown ((Chg.refl _ _).drew.alloc _) (by rw [← byte_cell ((x : Int) / 65536) (x / 65536) (by omega)]; exact hown') hgrow hrow).of_eq (by simp [be]))⟩
        case measure => simp [intOf]
    · have hw0 : IntKind.i64.wrap 24 = 24 := by decide
      go_wp2
      go_region_law (refine step_append_own rfl (.tmp 40) (.tmp 46) 44 rfl 0 5 i (.int .u8 0) 1 1 Tryd.underlying44 hi hz0 hz1 hz2 rfl (by decide) v _ _ (by simp [Act.eval, Act.put]) (hown.drew.alloc _) ⟨wr.heap.size, 0, none⟩ 1 1 [.int .u8 (IntKind.u8.wrap ((x : Int) / 16777216))] (by simp [Act.eval, Act.put]) rfl (by intro j u hj; match j, hj with | 0, hj => (simp at hj; subst hj; simp [Addr.add])) (by intro u hu; simp at hu; subst hu; rfl) (by have := hlen; unfold maxLen; omega) (by have := hlen; omega) (Nat.zero_le _) ?_; intro v' w' hown' hgrow hrow; have hah := WAt.ahead hb hown ((Chg.refl _ _).drew.alloc _) hown' hgrow; obtain ⟨⟨ao', m', cap', rfl⟩, _, hc0', _, hf0'⟩ := hah)
      all_goals
        go_wp2
        go_roundw
        case rel => exact ⟨3, by omega, by simp, WPost.trans hchg hrk ((WAt.stored (ys := [UInt8.ofNat (x / 16777216)]) hb hown ((Chg.refl _ _).drew.alloc _) (by rw [← byte_cell ((x : Int) / 16777216) (x / 16777216) (by omega)]; exact hown') hgrow hrow).of_eq (by simp [be]))⟩
        case measure => simp [intOf]

theorem put2_bad (B : Nat) (row : Option Nat) (xs : List UInt8) (b : Bool) (x : Int) (w : World) (h1 : b = true ∨ x < 0 ∨ 65536 ≤ x) (hw : WAt w B row xs b) :
    Calls Tryd.prog 44 #[.pointer (some ⟨B, 0, none⟩), .int .i64 x, .int .i64 2] w fun e w' => e = .returned (.pointer (some ⟨B, 0, none⟩)) ∧ WPost w w' B row xs true := by
  have c1 : w.cell? ⟨B, 1, none⟩ = some (.bool b) := by obtain ⟨v, _, hb, _⟩ := hw; exact cell_of hb rfl
  have f1 : w.frozen? ⟨B, 1, none⟩ = false := by obtain ⟨v, _, hb, _⟩ := hw; exact free_of hb
  have fin := WAt.spoil hw
  cases b
  · rcases h1 with h1 | h1 | h1
    · cases h1
    · have hd0 : decide (x < 0) = true := by simpa using h1
      have hd1 : decide ((65536 : Int) ≤ x) = false := by simp; omega
      go_enter Tryd.func44, Tryd.ntmps44
      go_wp2
      go_ret
      exact ⟨rfl, fin⟩
    · have hd0 : decide (x < 0) = false := by simp; omega
      have hd1 : decide ((65536 : Int) ≤ x) = true := by simpa using h1
      go_enter Tryd.func44, Tryd.ntmps44
      go_wp2
      go_ret
      exact ⟨rfl, fin⟩
  · go_enter Tryd.func44, Tryd.ntmps44
    go_wp2
    go_ret
    exact ⟨rfl, fin⟩

theorem put4_bad (B : Nat) (row : Option Nat) (xs : List UInt8) (b : Bool) (x : Int) (w : World) (h1 : b = true ∨ x < 0 ∨ 4294967296 ≤ x) (hw : WAt w B row xs b) :
    Calls Tryd.prog 44 #[.pointer (some ⟨B, 0, none⟩), .int .i64 x, .int .i64 4] w fun e w' => e = .returned (.pointer (some ⟨B, 0, none⟩)) ∧ WPost w w' B row xs true := by
  have c1 : w.cell? ⟨B, 1, none⟩ = some (.bool b) := by obtain ⟨v, _, hb, _⟩ := hw; exact cell_of hb rfl
  have f1 : w.frozen? ⟨B, 1, none⟩ = false := by obtain ⟨v, _, hb, _⟩ := hw; exact free_of hb
  have fin := WAt.spoil hw
  cases b
  · rcases h1 with h1 | h1 | h1
    · cases h1
    · have hd0 : decide (x < 0) = true := by simpa using h1
      have hd1 : decide ((4294967296 : Int) ≤ x) = false := by simp; omega
      go_enter Tryd.func44, Tryd.ntmps44
      go_wp2
      go_ret
      exact ⟨rfl, fin⟩
    · have hd0 : decide (x < 0) = false := by simp; omega
      have hd1 : decide ((4294967296 : Int) ≤ x) = true := by simpa using h1
      go_enter Tryd.func44, Tryd.ntmps44
      go_wp2
      go_ret
      exact ⟨rfl, fin⟩
  · go_enter Tryd.func44, Tryd.ntmps44
    go_wp2
    go_ret
    exact ⟨rfl, fin⟩

theorem put2_any (B : Nat) (row : Option Nat) (xs : List UInt8) (b : Bool) (x : Int) (w : World) (hs : xs.length + 2 ≤ 140737488355328) (hw : WAt w B row xs b) :
    Calls Tryd.prog 44 #[.pointer (some ⟨B, 0, none⟩), .int .i64 x, .int .i64 2] w fun e w' => e = .returned (.pointer (some ⟨B, 0, none⟩)) ∧ WPost w w' B row (wput 2 x xs b).1 (wput 2 x xs b).2 := by
  by_cases h : b = true ∨ x < 0 ∨ (256 ^ 2 : Int) ≤ x
  · rw [wput_no h]
    exact put2_bad B row xs b x w (by simpa using h) hw
  · obtain ⟨hb, h0, h1⟩ : b = false ∧ 0 ≤ x ∧ x < 65536 := by
      refine ⟨?_, by omega, by omega⟩
      cases b
      · rfl
      · simp at h
    subst hb
    rw [wput_yes h]
    obtain ⟨x, rfl⟩ := Int.eq_ofNat_of_zero_le h0
    exact put2_ok B row xs x w (by omega) hs hw

theorem put4_any (B : Nat) (row : Option Nat) (xs : List UInt8) (b : Bool) (x : Int) (w : World) (hs : xs.length + 4 ≤ 140737488355328) (hw : WAt w B row xs b) :
    Calls Tryd.prog 44 #[.pointer (some ⟨B, 0, none⟩), .int .i64 x, .int .i64 4] w fun e w' => e = .returned (.pointer (some ⟨B, 0, none⟩)) ∧ WPost w w' B row (wput 4 x xs b).1 (wput 4 x xs b).2 := by
  by_cases h : b = true ∨ x < 0 ∨ (256 ^ 4 : Int) ≤ x
  · rw [wput_no h]
    exact put4_bad B row xs b x w (by simpa using h) hw
  · obtain ⟨hb, h0, h1⟩ : b = false ∧ 0 ≤ x ∧ x < 4294967296 := by
      refine ⟨?_, by omega, by omega⟩
      cases b
      · rfl
      · simp at h
    subst hb
    rw [wput_yes h]
    obtain ⟨x, rfl⟩ := Int.eq_ofNat_of_zero_le h0
    exact put4_ok B row xs x w (by omega) hs hw

theorem wNum (B : Nat) (row : Option Nat) (xs : List UInt8) (b : Bool) (x : Int) (w : World) (hs : xs.length + 2 ≤ 140737488355328) (hw : WAt w B row xs b) :
    Calls Tryd.prog 24 #[.pointer (some ⟨B, 0, none⟩), .int .i64 x] w fun e w' => e = .returned (.pointer (some ⟨B, 0, none⟩)) ∧ WPost w w' B row (wput 2 x xs b).1 (wput 2 x xs b).2 := by
  have C := Lib.hid (put2_any B row xs b x w hs hw)
  go_enter Tryd.func24, Tryd.ntmps24
  go_wp2_with (go_at_call 44; refine C.out.mono ?_; rintro e w' ⟨rfl, hp⟩)
  go_ret
  exact ⟨rfl, hp⟩

theorem wLong (B : Nat) (row : Option Nat) (xs : List UInt8) (b : Bool) (x : Int) (w : World) (hs : xs.length + 4 ≤ 140737488355328) (hw : WAt w B row xs b) :
    Calls Tryd.prog 25 #[.pointer (some ⟨B, 0, none⟩), .int .i64 x] w fun e w' => e = .returned (.pointer (some ⟨B, 0, none⟩)) ∧ WPost w w' B row (wput 4 x xs b).1 (wput 4 x xs b).2 := by
  have C := Lib.hid (put4_any B row xs b x w hs hw)
  go_enter Tryd.func25, Tryd.ntmps25
  go_wp2_with (go_at_call 44; refine C.out.mono ?_; rintro e w' ⟨rfl, hp⟩)
  go_ret
  exact ⟨rfl, hp⟩

end Go.Proofs.YtikdjbcfckjccaaDoor
