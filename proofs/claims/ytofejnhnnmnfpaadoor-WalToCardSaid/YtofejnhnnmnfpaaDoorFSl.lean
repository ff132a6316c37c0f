/- Parts of a string of known bytes, by run equations. No condition. -/
import Derived.Test.YtofejnhnnmnfpaaDoorFPlain
import Derived.Test.YtofejnhnnmnfpaaDoorProg
namespace Go.Proofs.YtofejnhnnmnfpaaDoor.Fr
set_option maxRecDepth 100000
open Go.RowKit
theorem sl_to (l : List UInt8) (n : Nat) (x : Int) (hx : x = n) (h : n ≤ l.length) (w : World) : (Instr.slice 9 (.string (mk l)) none (some (.int .i64 x)) none).run Tryd.prog w = .ok (.string (mk (l.take n))) w := by
  subst hx
  rw [run_slice_string_h w 9 (mk l) Tryd.underlying9 .i64 n (by omega) (by rw [mk_size]; omega), Int.toNat_natCast, mk_take]
theorem sl_from (l : List UInt8) (n : Nat) (x : Int) (hx : x = n) (h : n ≤ l.length) (w : World) : (Instr.slice 9 (.string (mk l)) (some (.int .i64 x)) none none).run Tryd.prog w = .ok (.string (mk (l.drop n))) w := by
  subst hx
  rw [run_slice_string_l w 9 (mk l) Tryd.underlying9 .i64 n (by omega) (by rw [mk_size]; omega), Int.toNat_natCast, mk_size, mk_drop l n h]
theorem sl_mid (l : List UInt8) (i m : Nat) (x y : Int) (hx : x = i) (hy : y = i + m) (h : i + m ≤ l.length) (w : World) : (Instr.slice 9 (.string (mk l)) (some (.int .i64 x)) (some (.int .i64 y)) none).run Tryd.prog w = .ok (.string (mk ((l.drop i).take m))) w := by
  subst hx
  obtain rfl : y = ((i + m : Nat) : Int) := by omega
  rw [run_slice_string w 9 (mk l) .i64 .i64 i ((i + m : Nat) : Int) Tryd.underlying9 (by omega) (by omega) (by rw [mk_size]; omega), Int.toNat_natCast, Int.toNat_natCast, mk_ext, Nat.add_sub_cancel_left]
end Go.Proofs.YtofejnhnnmnfpaaDoor.Fr
