/- Bytes, numbers in bytes: plain facts. No condition. -/
import Derived.Test.YtofejnhnnmnfpaaDoorMk
import Derived.Test.YtofejnhnnmnfpaaDoorBase
import Derived.Lib.Strings
import Derived.Outline
import Derived.Handy
namespace Go.Proofs.YtofejnhnnmnfpaaDoor.Fr
set_option maxRecDepth 100000
open Go.RowKit

theorem mk_size (l : List UInt8) : (mk l).size = l.length := by simp [mk, ByteArray.size]
theorem mk_list (l : List UInt8) : (mk l).data.toList = l := by simp [mk]
theorem mk_of (s : ByteArray) : mk s.data.toList = s := by simp [mk]
@[go_sem] theorem mk_toList (l : List UInt8) : (mk l).toList = l := by rw [Lib.toList_data, mk_list]
theorem mk_take (l : List UInt8) (n : Nat) : (mk l).extract 0 n = mk (l.take n) := by
  apply ByteArray.ext
  apply Array.ext'
  simp [mk]
theorem mk_drop (l : List UInt8) (n : Nat) (_h : n ≤ l.length) : (mk l).extract n l.length = mk (l.drop n) := by
  apply ByteArray.ext
  apply Array.ext'
  simp [mk]
  rw [List.take_of_length_le (by simp)]
theorem mk_append (a b : List UInt8) : mk a ++ mk b = mk (a ++ b) := by
  apply ByteArray.ext
  apply Array.ext'
  simp [mk]
theorem mk_inj {a b : List UInt8} (h : mk a = mk b) : a = b := by rw [← mk_list a, h, mk_list]
theorem mk_get (b : List UInt8) (i : Nat) (h : i < (mk b).size) : (mk b)[i] = b.getD i 0 := by
  have h' : i < b.length := by rw [← mk_size]; exact h
  rw [List.getD, List.getElem?_eq_getElem h']
  rfl
theorem mk_ext (b : List UInt8) (i j : Nat) : (mk b).extract i j = mk ((b.drop i).take (j - i)) := by
  apply ByteArray.ext
  apply Array.ext'
  simp [mk, List.take_drop]
/-- The number of big bytes. -/
def val (l : List UInt8) : Nat := l.foldl (fun v b => v * 256 + b.toNat) 0

theorem join8 (v b : Int) (h0 : 0 ≤ v) (h1 : v < 16777216) (h2 : 0 ≤ b) (h3 : b < 256) : bits .or .i64 (v * 256) b = v * 256 + b :=
  bits_join .i64 62 (by decide) (fun n a b => by rw [IntKind.wrap_i64]; omega) 8 (v * 256) b (by omega) (by omega) (by omega) h2 (by omega) (by omega)
theorem val_snoc (l : List UInt8) (b : UInt8) : val (l ++ [b]) = val l * 256 + b.toNat := by simp [val]
theorem val_lt' (l : List UInt8) : ∀ v, l.foldl (fun v b => v * 256 + b.toNat) v < (v + 1) * 256 ^ l.length := by
  induction l with
  | nil => intro v; simp
  | cons b l ih =>
    intro v
    have h := ih (v * 256 + b.toNat)
    have hb := b.toNat_lt
    have h2 : (v * 256 + b.toNat + 1) * 256 ^ l.length ≤ (v + 1) * 256 * 256 ^ l.length := Nat.mul_le_mul_right _ (by omega)
    rw [List.foldl_cons, List.length_cons, Nat.pow_succ, Nat.mul_comm (256 ^ l.length) 256, ← Nat.mul_assoc]
    omega
theorem val_lt (l : List UInt8) : val l < 256 ^ l.length := by have := val_lt' l 0; simpa [val] using this
theorem val_take (l : List UInt8) (k : Nat) (h : k < (mk l).size) : val (l.take (k + 1)) = val (l.take k) * 256 + ((mk l)[k]).toNat := by
  have h' : k < l.length := by rw [← mk_size]; exact h
  rw [List.take_succ_eq_append_getElem h', val_snoc]
  congr 2
theorem val_take_lt (l : List UInt8) (k : Nat) (h : k ≤ 3) : val (l.take k) < 16777216 := by
  have h1 := val_lt (l.take k)
  have h2 : 256 ^ (l.take k).length ≤ 256 ^ 3 := Nat.pow_le_pow_right (by omega) (by simp; omega)
  omega

/-- A number in so many bytes, the most significant one first. -/
def be : Nat → Nat → List UInt8
  | 0, _ => []
  | n + 1, x => UInt8.ofNat (x / 256 ^ n) :: be n x
theorem byte_cell (y : Int) (n : Nat) (h : y % 256 = ((n % 256 : Nat) : Int)) : [Value.int .u8 (IntKind.u8.wrap y)] = bcells [UInt8.ofNat n] := by
  simp only [bcells, List.map_cons, List.map_nil, IntKind.wrap_u8, UInt8.toNat_ofNat']
  rw [h]

theorem be_length : ∀ n x, (be n x).length = n
  | 0, _ => rfl
  | n + 1, x => by rw [be, List.length_cons, be_length n x]
theorem val_be2 (x : Nat) (h : x < 65536) : val (be 2 x) = x := by
  simp [val, be]; omega
theorem val_be4 (x : Nat) (h : x < 4294967296) : val (be 4 x) = x := by
  simp [val, be]; omega
end Go.Proofs.YtofejnhnnmnfpaaDoor.Fr
