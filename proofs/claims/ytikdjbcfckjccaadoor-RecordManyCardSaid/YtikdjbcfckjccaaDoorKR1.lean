/- The Reader of package pack in memory, and what its methods do to it. No condition. -/
import Derived.Test.YtikdjbcfckjccaaDoorProg
import Derived.Test.YtikdjbcfckjccaaDoorBase
import Derived.Lib.Strings
import Derived.Outline
import Derived.Handy
namespace Go.Proofs.YtikdjbcfckjccaaDoor
open Go.RowKit

/-- A string of these bytes. -/
def mk (l : List UInt8) : ByteArray := ⟨l.toArray⟩
theorem mk_size (l : List UInt8) : (mk l).size = l.length := by simp [mk, ByteArray.size]
theorem mk_list (l : List UInt8) : (mk l).data.toList = l := by simp [mk]
theorem mk_of (s : ByteArray) : mk s.data.toList = s := by simp [mk]
@[go_sem] theorem mk_toList (l : List UInt8) : (mk l).toList = l := by rw [Lib.toList_data, mk_list]
theorem mk_take (l : List UInt8) (n : Nat) : (mk l).extract 0 n = mk (l.take n) := by
  apply ByteArray.ext
  apply Array.ext'
  simp [mk]
theorem mk_drop (l : List UInt8) (n : Nat) (h : n ≤ l.length) : (mk l).extract n l.length = mk (l.drop n) := by
  apply ByteArray.ext
  apply Array.ext'
  simp [mk]
  rw [List.take_of_length_le (by simp)]

/-- What a method of the Reader may write. -/
def RS (R : Nat) (k : Nat) : Prop := k = R
/-- A READER IN MEMORY. -/
def RAt (w : World) (R : Nat) (l : List UInt8) (bad : Bool) : Prop := w.heap[R]? = some (.cells #[.string (mk l), .bool bad] 76 (0, 0))
/-- WHAT A METHOD OF THE READER LEAVES. -/
def RPost (w w' : World) (R : Nat) (l : List UInt8) (bad : Bool) : Prop := RAt w' R l bad ∧ Chg (RS R) w w'

theorem RAt.set {w : World} {R : Nat} {l l' : List UInt8} {b : Bool} (h : RAt w R l b) : RAt (w.setCell ⟨R, 0, none⟩ (.string (mk l'))) R l' b := by
  have := heap_setCell (i := 0) h (.string (mk l'))
  simpa [RAt] using this
theorem RAt.spoil {w : World} {R : Nat} {l : List UInt8} {b : Bool} (h : RAt w R l b) : RPost w (w.setCell ⟨R, 1, none⟩ (.bool true)) R l true := by
  have := heap_setCell (i := 1) h (.bool true)
  exact ⟨by simpa [RAt] using this, (Chg.refl (RS R) w).setCell (a := ⟨R, 1, none⟩) (fun _ => rfl) _⟩

theorem take_bad (R : Nat) (l : List UInt8) (b : Bool) (n : Int) (w : World) (h : b = true ∨ (l.length : Int) < n) (hr : RAt w R l b) :
    Calls Tryd.prog 43 #[.pointer (some ⟨R, 0, none⟩), .int .i64 n] w fun e w' => e = .returned (.string (mk [])) ∧ RPost w w' R l true := by
  have c0 : w.cell? ⟨R, 0, none⟩ = some (.string (mk l)) := cell_of hr rfl
  have c1 : w.cell? ⟨R, 1, none⟩ = some (.bool b) := cell_of hr rfl
  have f1 : w.frozen? ⟨R, 1, none⟩ = false := free_of hr
  have fin := hr.spoil
  have hsz := mk_size l
  cases b
  · have hd : decide (((mk l).size : Int) < n) = true := by
      rw [hsz]
      rcases h with h | h
      · cases h
      · simpa using h
    clear hsz h
    go_enter Tryd.func43, Tryd.ntmps43
    go_wp2
    go_ret
    exact ⟨rfl, fin⟩
  · clear h hsz
    go_enter Tryd.func43, Tryd.ntmps43
    go_wp2
    go_ret
    exact ⟨rfl, fin⟩

theorem take_ok (R : Nat) (l : List UInt8) (n : Nat) (w : World) (h : n ≤ l.length) (hr : RAt w R l false) :
    Calls Tryd.prog 43 #[.pointer (some ⟨R, 0, none⟩), .int .i64 n] w fun e w' => e = .returned (.string (mk (l.take n))) ∧ RPost w w' R (l.drop n) false := by
  have c0 : w.cell? ⟨R, 0, none⟩ = some (.string (mk l)) := cell_of hr rfl
  have c1 : w.cell? ⟨R, 1, none⟩ = some (.bool false) := cell_of hr rfl
  have f0 : w.frozen? ⟨R, 0, none⟩ = false := free_of hr
  have hsz := mk_size l
  have hle : n ≤ (mk l).size := by omega
  have hd : decide (((mk l).size : Int) < n) = false := by simp; omega
  have fin : RPost w (w.setCell ⟨R, 0, none⟩ (.string (mk (l.drop n)))) R (l.drop n) false := ⟨hr.set, (Chg.refl (RS R) w).setCell (a := ⟨R, 0, none⟩) (fun _ => rfl) _⟩
  have H := Lib.hid hsz
  clear hsz
  go_enter Tryd.func43, Tryd.ntmps43
  go_wp2
  go_ret
  rw [H.out, mk_drop l n h, mk_take]
  exact ⟨rfl, fin⟩

/-- The number of big bytes. -/
def val (l : List UInt8) : Nat := l.foldl (fun v b => v * 256 + b.toNat) 0

theorem join8 (v b : Int) (h0 : 0 ≤ v) (h1 : v < 16777216) (h2 : 0 ≤ b) (h3 : b < 256) : bits .or .i64 (v * 256) b = v * 256 + b :=
  bits_join .i64 62 (by decide) (fun n a b => by rw [IntKind.wrap_i64]; omega) 8 (v * 256) b (by omega) (by omega) (by omega) h2 (by omega) (by omega)
theorem val_snoc (l : List UInt8) (b : UInt8) : val (l ++ [b]) = val l * 256 + b.toNat := by simp [val]
theorem val_lt' (l : List UInt8) : ∀ v, l.foldl (fun v b => v * 256 + b.toNat) v < (v + 1) * 256 ^ l.length := by
  induction l with
  | nil => intro v; simp
  | cons b l ih =>
    intro v
    have h := ih (v * 256 + b.toNat)
    have hb := b.toNat_lt
    have h2 : (v * 256 + b.toNat + 1) * 256 ^ l.length ≤ (v + 1) * 256 * 256 ^ l.length := Nat.mul_le_mul_right _ (by omega)
    rw [List.foldl_cons, List.length_cons, Nat.pow_succ, Nat.mul_comm (256 ^ l.length) 256, ← Nat.mul_assoc]
    omega
theorem val_lt (l : List UInt8) : val l < 256 ^ l.length := by have := val_lt' l 0; simpa [val] using this
theorem val_take (l : List UInt8) (k : Nat) (h : k < (mk l).size) : val (l.take (k + 1)) = val (l.take k) * 256 + ((mk l)[k]).toNat := by
  have h' : k < l.length := by rw [← mk_size]; exact h
  rw [List.take_succ_eq_append_getElem h', val_snoc]
  congr 2
theorem val_take_lt (l : List UInt8) (k : Nat) (h : k ≤ 3) : val (l.take k) < 16777216 := by
  have h1 := val_lt (l.take k)
  have h2 : 256 ^ (l.take k).length ≤ 256 ^ 3 := Nat.pow_le_pow_right (by omega) (by simp; omega)
  omega

theorem get_ok (R : Nat) (l : List UInt8) (n : Nat) (w : World) (hn : n ≤ 4) (h : n ≤ l.length) (hr : RAt w R l false) :
    Calls Tryd.prog 42 #[.pointer (some ⟨R, 0, none⟩), .int .i64 n] w fun e w' => e = .returned (.int .i64 (val (l.take n))) ∧ RPost w w' R (l.drop n) false := by
  have C := Lib.hid (take_ok R l n w h hr)
  have hsz := mk_size (l.take n)
  have hmin : (l.take n).length = n := by simp; omega
  rw [hmin] at hsz
  have H := Lib.hid hsz
  have hle : (mk (l.take n)).size ≤ 4 := by omega
  clear hmin hsz
  go_enter Tryd.func42, Tryd.ntmps42
  go_wp2_with (go_at_call 43; refine C.out.mono ?_; rintro e w1 ⟨rfl, hp⟩)
  go_loop [5, 13] (fun v i => ∃ k : Nat, k ≤ n ∧ i = .int .i64 k ∧ v = .int .i64 (val ((l.take n).take k))) (fun _ i => n - (intOf i).toNat)
  case atStart => exact ⟨0, Nat.zero_le _, rfl, rfl⟩
  case round =>
    obtain ⟨k, hk, rfl, rfl⟩ := hrel
    obtain ⟨v, hv⟩ : ∃ v, v = val ((l.take n).take k) := ⟨_, rfl⟩
    have hb : k < (mk (l.take n)).size → v < 16777216 := fun hlt => by rw [hv]; exact val_take_lt _ _ (by omega)
    have hs : ∀ hlt : k < (mk (l.take n)).size, val ((l.take n).take (k + 1)) = v * 256 + ((mk (l.take n))[k]).toNat := fun hlt => by rw [hv]; exact val_take _ _ hlt
    rw [← hv]
    have HV := Lib.hid hv
    have HS := Lib.hid hs
    clear hv hs
    by_cases hlt : k < (mk (l.take n)).size
    · have hb' := hb hlt
      clear hb
      go_wp2
      go_round
      case rel =>
        refine ⟨k + 1, by have := H.out; omega, by go_num, ?_⟩
        rw [HS.out hlt]
        have h255 := ((mk (l.take n))[k]).toNat_lt
        rw [IntWalk.wrap64_in _ (by omega), join8 _ _ (by omega) (by omega) (by omega) (by omega)]
        simp
      case measure => simp [intOf]; have := H.out; omega
    · go_wp2
      go_ret
      have e : k = n := by have := H.out; omega
      subst e
      rw [HV.out, List.take_take, Nat.min_self]
      exact ⟨rfl, hp⟩
end Go.Proofs.YtikdjbcfckjccaaDoor
