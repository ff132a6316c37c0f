/- Parts of strings of known bytes, by run equations. No condition. -/
import Derived.Test.YtikdjbcfckjccaaDoorRecA
namespace Go.Proofs.YtikdjbcfckjccaaDoor
open Go.RowKit
theorem mk_append (a b : List UInt8) : mk a ++ mk b = mk (a ++ b) := by
  apply ByteArray.ext
  apply Array.ext'
  simp [mk]
theorem lit_append (a : Array UInt8) (b : List UInt8) : (⟨a⟩ : ByteArray) ++ mk b = mk (a.toList ++ b) := by
  apply ByteArray.ext
  apply Array.ext'
  simp [mk]
theorem mk_inj {a b : List UInt8} (h : mk a = mk b) : a = b := by rw [← mk_list a, h, mk_list]
theorem mk_get (b : List UInt8) (i : Nat) (h : i < (mk b).size) : (mk b)[i] = b.getD i 0 := by
  have h' : i < b.length := by rw [← mk_size]; exact h
  rw [List.getD, List.getElem?_eq_getElem h']
  rfl
theorem mk_ext (b : List UInt8) (i j : Nat) : (mk b).extract i j = mk ((b.drop i).take (j - i)) := by
  apply ByteArray.ext
  apply Array.ext'
  simp [mk, List.take_drop]

theorem sl_to (l : List UInt8) (n : Nat) (x : Int) (hx : x = n) (h : n ≤ l.length) (w : World) : (Instr.slice 9 (.string (mk l)) none (some (.int .i64 x)) none).run Tryd.prog w = .ok (.string (mk (l.take n))) w := by
  subst hx
  rw [run_slice_string_h w 9 (mk l) Tryd.underlying9 .i64 n (by omega) (by rw [mk_size]; omega), Int.toNat_natCast, mk_take]
theorem sl_from (l : List UInt8) (n : Nat) (x : Int) (hx : x = n) (h : n ≤ l.length) (w : World) : (Instr.slice 9 (.string (mk l)) (some (.int .i64 x)) none none).run Tryd.prog w = .ok (.string (mk (l.drop n))) w := by
  subst hx
  rw [run_slice_string_l w 9 (mk l) Tryd.underlying9 .i64 n (by omega) (by rw [mk_size]; omega), Int.toNat_natCast, mk_size, mk_drop l n h]
theorem sl_mid (l : List UInt8) (i m : Nat) (x y : Int) (hx : x = i) (hy : y = i + m) (h : i + m ≤ l.length) (w : World) : (Instr.slice 9 (.string (mk l)) (some (.int .i64 x)) (some (.int .i64 y)) none).run Tryd.prog w = .ok (.string (mk ((l.drop i).take m))) w := by
  subst hx
  obtain rfl : y = ((i + m : Nat) : Int) := by omega
  rw [run_slice_string w 9 (mk l) .i64 .i64 i ((i + m : Nat) : Int) Tryd.underlying9 (by omega) (by omega) (by rw [mk_size]; omega), Int.toNat_natCast, Int.toNat_natCast, mk_ext, Nat.add_sub_cancel_left]
theorem idx (b : List UInt8) (i : Nat) (x y : Int) (hx : x = i) (h : i < b.length) (hy : ((b.getD i 0).toNat : Int) = y) (w : World) : (Instr.index 9 (.string (mk b)) (.int .i64 x)).run Tryd.prog w = .ok (.int .u8 y) w := by
  subst hx
  subst hy
  rw [run_index_string (h := Tryd.underlying9), dif_pos ⟨by omega, by rw [mk_size]; omega⟩, ← mk_get b i (by rw [mk_size]; omega)]
  rfl
theorem bits_xor_u8 (a b : UInt8) : bits .xor .u8 (a.toNat : Int) (b.toNat : Int) = ((a ^^^ b).toNat : Int) := by
  have ha := a.toNat_lt
  have hb := b.toNat_lt
  have hx : a.toNat ^^^ b.toNat < 2 ^ 8 := Nat.xor_lt_two_pow (by omega) (by omega)
  have h1 : (BitVec.ofInt 8 (a.toNat : Int)).toNat = a.toNat := by
    rw [BitVec.ofInt_natCast, BitVec.toNat_ofNat]; exact Nat.mod_eq_of_lt (by omega)
  have h2 : (BitVec.ofInt 8 (b.toNat : Int)).toNat = b.toNat := by
    rw [BitVec.ofInt_natCast, BitVec.toNat_ofNat]; exact Nat.mod_eq_of_lt (by omega)
  show IntKind.u8.wrap ((BitVec.ofInt 8 (a.toNat : Int) ^^^ BitVec.ofInt 8 (b.toNat : Int)).toNat : Int) = _
  rw [BitVec.toNat_xor, h1, h2, IntKind.wrap_u8, UInt8.toNat_xor]
  omega
theorem xor_ne (a x : UInt8) (h : x ≠ 0) : a ≠ a ^^^ x := by
  intro e
  apply h
  have : a ^^^ (a ^^^ x) = a ^^^ a := by rw [← e]
  simpa [← UInt8.xor_assoc] using this

end Go.Proofs.YtikdjbcfckjccaaDoor
