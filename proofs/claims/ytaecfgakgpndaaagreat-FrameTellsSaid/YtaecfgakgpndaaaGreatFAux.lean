/- SameTexts, Few, alive of the laws on frame. No condition. -/
import Derived.Test.YtaecfgakgpndaaaGreatFScan
namespace Go.Proofs.YtaecfgakgpndaaaGreat
open Go.RowKit
attribute [local go_sem] mk_size mk_append

set_option maxHeartbeats 1600000 in
theorem same_yes (a1 a2 : Option Addr) (c1 c2 : Nat) (l : List (List UInt8)) (w : World) (h1 : TAt w a1 l) (h2 : TAt w a2 l) (hl : l.length ≤ 1000000000) :
    Calls Tryz.prog 16 #[.slice a1 l.length c1, .slice a2 l.length c2] w fun e w' => e = .returned (.bool true) ∧ Below w.heap.size w w' := by
  have hne : ((l.length : Int) != l.length) = false := by simp
  replace h1 := Lib.hid h1
  replace h2 := Lib.hid h2
  go_enter Tryz.func16, Tryz.ntmps16
  go_wp2
  go_loopw [5] (fun i wr => ∃ k : Nat, k ≤ l.length ∧ i = .int .i64 k ∧ ∃ n, wr = w.drewN n) (fun i _ => l.length - (intOf i).toNat)
  case atStart => exact ⟨0, Nat.zero_le _, rfl, 0, rfl⟩
  case round =>
    obtain ⟨k, hk, rfl, n, rfl⟩ := hrel
    by_cases hlt : k < l.length
    · obtain ⟨b1, o1, rfl, g1⟩ := h1.out k hlt
      obtain ⟨b2, o2, rfl, g2⟩ := h2.out k hlt
      obtain ⟨x, hx⟩ : ∃ x, x = l[k] := ⟨_, rfl⟩
      rw [← hx] at g1 g2
      replace hx := Lib.hid hx
      have hkk : (0 : Int) ≤ k := by omega
      have hkl : (k : Int) < l.length := by omega
      have g1' : (w.drewN n).cell? ⟨b1, o1 + k, none⟩ = some (.string (mk x)) := g1
      have g2' : (w.drewN n).cell? ⟨b2, o2 + k, none⟩ = some (.string (mk x)) := g2
      go_wp2
      go_quiet (fail)
      go_wp2
      go_roundw
      case rel => exact ⟨k + 1, hlt, by go_num, _, rfl⟩
      case measure => simp [intOf]; omega
    · obtain rfl : k = l.length := by omega
      go_wp2
      go_ret
      exact ⟨rfl, Below.drewN (Below.refl _ _) _⟩

/-- All bytes of texts. -/
def tot (l : List (List UInt8)) : Nat := (l.map List.length).sum
theorem tot_take (l : List (List UInt8)) (k : Nat) (h : k < l.length) : tot (l.take (k + 1)) = tot (l.take k) + l[k].length := by
  rw [List.take_succ_eq_append_getElem h, tot, List.map_append, List.sum_append]; simp [tot]
def fewB (l : List (List UInt8)) : Bool := decide (l.length ≤ 20) && decide (tot l ≤ 1500)
theorem fewB_iff {l : List (List UInt8)} : fewB l = true ↔ l.length ≤ 20 ∧ tot l ≤ 1500 := by simp [fewB]
theorem stream_tot (l : List (List UInt8)) : (stream l).length = 2 * l.length + tot l := by
  induction l with
  | nil => rfl
  | cons r l ih => rw [stream_cons]; simp [be_length, ih, tot]; omega
theorem tot_mem {l : List (List UInt8)} {b : List UInt8} (h : b ∈ l) : b.length ≤ tot l := by
  induction l with
  | nil => cases h
  | cons r l ih =>
    rcases List.mem_cons.1 h with rfl | h
    · simp [tot]
    · have := ih h; simp [tot] at this ⊢; omega
set_option maxHeartbeats 1600000 in
theorem few_no (a : Option Addr) (c : Nat) (l : List (List UInt8)) (w : World) (ha : TAt w a l) (hl : l.length ≤ 140737488351232) (h : 20 < l.length) :
    Calls Tryz.prog 4 #[.slice a l.length c] w fun e w' => e = .returned (.bool false) ∧ w = w' := by
  replace ha := Lib.hid ha
  have h20 : decide ((l.length : Int) ≤ 20) = false := by simp; omega
  go_enter Tryz.func4, Tryz.ntmps4
  go_wp2
  go_loop [3, 7] (fun n i => ∃ k : Nat, ∃ x : Int, k ≤ l.length ∧ i = .int .i64 k ∧ n = .int .i64 x) (fun _ i => l.length - (intOf i).toNat)
  case atStart => exact ⟨0, 0, Nat.zero_le _, rfl, rfl⟩
  case round =>
    obtain ⟨k, x, hk, rfl, rfl⟩ := hrel
    by_cases hlt : k < l.length
    · obtain ⟨b, o, rfl, g⟩ := ha.out k hlt
      obtain ⟨y, hy⟩ : ∃ y, y = l[k] := ⟨_, rfl⟩
      rw [← hy] at g
      replace hy := Lib.hid hy
      go_wp2
      go_round
      case rel => exact ⟨k + 1, _, hlt, by go_num, rfl⟩
      case measure => simp [intOf]; omega
    · obtain rfl : k = l.length := by omega
      go_wp2
      go_ret
      exact ⟨rfl, rfl⟩
set_option maxHeartbeats 1600000 in
theorem few_small (a : Option Addr) (c : Nat) (l : List (List UInt8)) (w : World) (ha : TAt w a l) (h : l.length ≤ 20) (hz : ∀ b ∈ l, b.length ≤ 140737488351232) :
    Calls Tryz.prog 4 #[.slice a l.length c] w fun e w' => e = .returned (.bool (decide (tot l ≤ 1500))) ∧ w = w' := by
  replace ha := Lib.hid ha
  have h20 : decide ((l.length : Int) ≤ 20) = true := by simp; omega
  have hb : ∀ k, k ≤ l.length → tot (l.take k) ≤ k * 140737488351232 := by
    intro k
    induction k with
    | zero => intro _; simp [tot]
    | succ k ih =>
      intro hk
      have h1 := hz l[k] (List.getElem_mem (by omega))
      rw [tot_take l k (by omega)]
      have := ih (by omega)
      omega
  replace hb := Lib.hid hb
  replace hz := Lib.hid hz
  go_enter Tryz.func4, Tryz.ntmps4
  go_wp2
  go_loop [3, 7] (fun n i => ∃ k : Nat, k ≤ l.length ∧ i = .int .i64 k ∧ n = .int .i64 (tot (l.take k))) (fun _ i => l.length - (intOf i).toNat)
  case atStart => exact ⟨0, Nat.zero_le _, rfl, rfl⟩
  case round =>
    obtain ⟨k, hk, rfl, rfl⟩ := hrel
    by_cases hlt : k < l.length
    · obtain ⟨b, o, rfl, g⟩ := ha.out k hlt
      have ht := tot_take l k hlt
      have hbk := hb.out (k + 1) hlt
      obtain ⟨y, hy⟩ : ∃ y, y = l[k] := ⟨_, rfl⟩
      rw [← hy] at g ht
      rw [ht] at hbk
      replace hy := Lib.hid hy
      replace ht := Lib.hid ht
      generalize tot (l.take k) = s at *
      have hs1 : ((s : Int) + y.length) ≤ 2814749767024640 := by omega
      go_wp2
      go_round
      case rel => exact ⟨k + 1, hlt, by go_num, by rw [ht.out]; go_num⟩
      case measure => simp [intOf]; omega
    · obtain rfl : k = l.length := by omega
      rw [List.take_length]
      go_wp2
      go_ret
      exact ⟨by simp; omega, rfl⟩
theorem few_any (a : Option Addr) (c : Nat) (l : List (List UInt8)) (w : World) (ha : TAt w a l) (hl : l.length ≤ 140737488351232) (hz : ∀ b ∈ l, b.length ≤ 140737488351232) :
    Calls Tryz.prog 4 #[.slice a l.length c] w fun e w' => e = .returned (.bool (fewB l)) ∧ w = w' := by
  by_cases h : l.length ≤ 20
  · refine (few_small a c l w ha h hz).mono fun e w' ⟨he, hw⟩ => ⟨?_, hw⟩
    rw [he, fewB, decide_eq_true h, Bool.true_and]
  · refine (few_no a c l w ha hl (by omega)).mono fun e w' ⟨he, hw⟩ => ⟨?_, hw⟩
    rw [he, fewB, decide_eq_false h, Bool.false_and]
end Go.Proofs.YtaecfgakgpndaaaGreat
