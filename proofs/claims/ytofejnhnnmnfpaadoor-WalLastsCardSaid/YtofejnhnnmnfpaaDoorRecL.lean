/- Light of the laws. No condition. -/
import Derived.Test.YtofejnhnnmnfpaaDoorRXs
import Derived.Test.YtofejnhnnmnfpaaDoorRecQ
namespace Go.Proofs.YtofejnhnnmnfpaaDoor.Rc
set_option maxRecDepth 100000
open Go.RowKit
/-- What Light answers. -/
def LightPost (r : Rec) (w : World) (e : Ending) (w' : World) : Prop := ∃ b, e = .returned (.bool b) ∧ (b = true → r.pages.length ≤ 80 ∧ r.pats.length ≤ 60 ∧ r.txs.length ≤ 20 ∧ r.dirty.length ≤ 80) ∧ Below w.heap.size w w'
set_option maxRecDepth 100000 in
set_option maxHeartbeats 6400000 in
theorem light_any (v vp vt vx vd : Value) (r : Rec) (w : World) (h : RecAt w v vp vt vx vd r) (hl1 : r.pats.length ≤ 140737488351232) (hl2 : r.txs.length ≤ 140737488351232) :
    Calls Tryd.prog 18 #[v] w (LightPost r w) := by
  obtain ⟨rfl, ⟨a1, c1, rfl, _⟩, ⟨a2, c2, rfl, hA⟩, ⟨a3, c3, rfl, hB⟩, ⟨a4, c4, rfl, _⟩⟩ := h
  obtain ⟨kind, tx, prev, next, key, had, ⟨ok, ov, ob, os⟩, pages, pats, txs, dirty⟩ := r
  simp only at hA hB hl1 hl2 ⊢
  replace hA := Lib.hid hA
  replace hB := Lib.hid hB
  go_enter Tryd.func18, Tryd.ntmps18
  go_wp2
  go_loop [3, 22] (fun n i => ∃ k : Nat, ∃ x : Int, k ≤ pats.length ∧ i = .int .i64 k ∧ n = .int .i64 x) (fun _ i => pats.length - (intOf i).toNat)
  case atStart => exact ⟨0, _, Nat.zero_le _, rfl, rfl⟩
  case round =>
    obtain ⟨k, x, hk, rfl, rfl⟩ := hrel
    by_cases hlt : k < pats.length
    · obtain ⟨b, o, rfl, g1, g2, g3⟩ := hA.out k hlt
      obtain ⟨⟨x1, x2, x3⟩, hx⟩ : ∃ x, x = pats[k] := ⟨_, rfl⟩
      rw [← hx] at g1 g2 g3
      simp only at g1 g2 g3
      have hbl := World.block_lt_of_cell? _ _ g1
      have hkk : (0 : Int) ≤ k := by omega
      have hkl : (k : Int) < pats.length := by omega
      replace hx := Lib.hid hx
      by_cases hbig : (300 : Int) < ((mk x3).size : Nat)
      · go_wp2
        go_ret
        exact ⟨false, rfl, by simp, (Below.refl _ _).alloc (Nat.le_refl _) _⟩
      · go_wp2
        go_round
        case rel => exact ⟨k + 1, _, hlt, by go_num, rfl⟩
        case measure => simp [intOf]; omega
    · obtain rfl : k = pats.length := by omega
      clear hk hlt
      go_wp2
      go_loop [3, 46] (fun n i => ∃ k : Nat, ∃ x : Int, k ≤ txs.length ∧ i = .int .i64 k ∧ n = .int .i64 x) (fun _ i => txs.length - (intOf i).toNat)
      case atStart => exact ⟨0, _, Nat.zero_le _, rfl, rfl⟩
      case round =>
        obtain ⟨k, x, hk, rfl, rfl⟩ := hrel
        by_cases hlt : k < txs.length
        · obtain ⟨b, o, u, rfl, g1, g2, g3, g4, a5, c5, rfl, _⟩ := hB.out k hlt
          obtain ⟨⟨x1, x2, x3, x4⟩, hx⟩ : ∃ x, x = txs[k] := ⟨_, rfl⟩
          rw [← hx] at g1 g2 g3 g4
          simp only at g1 g2 g3 g4
          have hbl := World.block_lt_of_cell? _ _ g1
          have hkk : (0 : Int) ≤ k := by omega
          have hkl : (k : Int) < txs.length := by omega
          replace hx := Lib.hid hx
          go_wp2
          go_round
          case rel => exact ⟨k + 1, _, hlt, by go_num, rfl⟩
          case measure => simp [intOf]; omega
        · obtain rfl : k = txs.length := by omega
          clear hk hlt
          have fin : ∀ o, Below w.heap.size w (w.alloc o) := fun o => (Below.refl _ _).alloc (Nat.le_refl _) o
          replace fin := Lib.hid fin
          by_cases d1 : x < 20000
          case neg =>
            have d1' : decide (x < 20000) = false := decide_eq_false d1
            go_wp2
            go_ret
            exact ⟨false, rfl, by simp, fin.out _⟩
          by_cases d2 : (pages.length : Int) ≤ 80
          case neg =>
            have d2' : decide ((pages.length : Int) ≤ 80) = false := decide_eq_false d2
            go_wp2
            go_ret
            exact ⟨false, rfl, by simp, fin.out _⟩
          by_cases d3 : (pats.length : Int) ≤ 60
          case neg =>
            have d3' : decide ((pats.length : Int) ≤ 60) = false := decide_eq_false d3
            go_wp2
            go_ret
            exact ⟨false, rfl, by simp, fin.out _⟩
          by_cases d4 : (txs.length : Int) ≤ 20
          case neg =>
            have d4' : decide ((txs.length : Int) ≤ 20) = false := decide_eq_false d4
            go_wp2
            go_ret
            exact ⟨false, rfl, by simp, fin.out _⟩
          by_cases d5 : (dirty.length : Int) ≤ 80
          case neg =>
            have d5' : decide ((dirty.length : Int) ≤ 80) = false := decide_eq_false d5
            go_wp2
            go_ret
            exact ⟨false, rfl, by simp, fin.out _⟩
          go_wp2
          go_ret
          exact ⟨true, rfl, fun _ => ⟨by simp only; omega, by simp only; omega, by simp only; omega, by simp only; omega⟩, fin.out _⟩
end Go.Proofs.YtofejnhnnmnfpaaDoor.Rc
