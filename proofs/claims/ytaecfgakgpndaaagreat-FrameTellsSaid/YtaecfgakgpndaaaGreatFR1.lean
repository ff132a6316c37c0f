/- Numbers as bytes, by the document. No condition. -/
import Derived.Test.YtaecfgakgpndaaaGreatFNum
import Derived.Test.YtaecfgakgpndaaaGreatFZer
import Derived.Test.YtaecfgakgpndaaaGreatBkM
namespace Go.Proofs.YtaecfgakgpndaaaGreat
open Go.RowKit

theorem bits_and255 (x : Nat) (h : x < 9223372036854775808) : bits .and .i64 (x : Int) 255 = ((x % 256 : Nat) : Int) := by
  have e : bits .and .i64 (x : Int) 255 = IntKind.i64.wrap ((BitVec.ofInt 64 (x : Int) &&& BitVec.ofInt 64 255).toNat : Int) := rfl
  have h1 : (BitVec.ofInt 64 (x : Int)).toNat = x := by rw [BitVec.ofInt_natCast, BitVec.toNat_ofNat]; exact Nat.mod_eq_of_lt (by omega)
  have h2 : (BitVec.ofInt 64 (255 : Int)).toNat = 255 := by decide
  rw [e, BitVec.toNat_and, h1, h2, show (255 : Nat) = 2 ^ 8 - 1 by decide, Nat.and_two_pow_sub_one_eq_mod, IntKind.wrap_i64]
  have h8 : (2 : Nat) ^ 8 = 256 := by decide
  rw [h8]
  have := Nat.mod_lt x (show 0 < 256 by decide)
  omega
/-- The last c bytes are there. -/
def bigRow (n c x : Nat) : List UInt8 := List.replicate (n - c) 0 ++ be c x
theorem bigRow_len {n c x : Nat} (h : c ≤ n) : (bigRow n c x).length = n := by simp [bigRow, be_length]; omega
theorem bigRow_set {n c x : Nat} (h : c < n) : (bcells (bigRow n c x)).set (n - 1 - c) (.int .u8 ((UInt8.ofNat (x / 256 ^ c)).toNat : Int)) = bcells (bigRow n (c + 1) x) := by
  obtain ⟨m, rfl⟩ : ∃ m, n = c + 1 + m := ⟨n - c - 1, by omega⟩
  have e1 : c + 1 + m - c = m + 1 := by omega
  have e2 : c + 1 + m - (c + 1) = m := by omega
  have e3 : c + 1 + m - 1 - c = m := by omega
  rw [bigRow, bigRow, e1, e2, e3, be, List.replicate_succ', List.append_assoc, bcells_append, bcells_append]
  rw [List.set_append_right _ _ (by rw [bcells_length, List.length_replicate]; exact Nat.le_refl _), bcells_length, List.length_replicate, Nat.sub_self, bcells_append]
  rfl
theorem big_made {w w1 : World} {n x : Nat} (hown : w1.ownsRow w.heap.size 5 1 (.slice (some ⟨w.heap.size, 0, none⟩) n n) n (madeCells (Value.int .u8 0).cells (n * 1)).toList) :
    w1.ownsRow w.heap.size 5 1 (.slice (some ⟨w.heap.size, 0, none⟩) n n) n (bcells (bigRow n 0 x)) := by
  rw [show (Value.int .u8 0).cells = #[Value.int .u8 0] from rfl, toList_madeCells_one, Nat.mul_one] at hown
  have e : bcells (bigRow n 0 x) = List.replicate n (Value.int .u8 0) := by simp [bcells, bigRow, be]
  rw [e]
  exact hown
set_option maxRecDepth 100000 in
set_option maxHeartbeats 3200000 in
theorem big_any (x n : Nat) (w : World) (hn1 : 1 ≤ n) (hn : n ≤ 8) (hx : x < 9223372036854775808) (hxn : x < 256 ^ n) :
    Calls Tryz.prog 76 #[.int .i64 x, .int .i64 n] w fun e w' => e = .returned (.tuple #[.string (mk (be n x)), .bool true]) ∧ Below w.heap.size w w' := by
  obtain ⟨i, hi, hz0, hz1, hz2⟩ := info_parts Tryz.infoU8
  go_enter Tryz.func76, Tryz.ntmps76
  go_wp2_with (at_make; refine wpList_make_full _ rfl _ _ 60 rfl w.heap.size 5 i (.int .u8 0) 1 Tryz.underlying60 hi hz0 hz1 _ _ _ _ n rfl rfl rfl rfl (by rw [hz2]; omega) (by unfold maxLen; omega) (Nat.le_refl _) ?_; intro w1 hown hgrow; have hb1 := Lib.hid ((Below.refl _ w).grown hgrow (Nat.le_refl _) (fun _ h => by cases h)); have ho1 := Lib.hid (big_made (x := x) hown); clear hown hgrow)
  go_loopw [7, 8] (fun v c wr => ∃ m : Nat, m ≤ n ∧ v = .int .i64 ((x / 256 ^ (n - m) : Nat) : Int) ∧ c = .int .i64 ((m : Int) - 1) ∧ wr.ownsRow w.heap.size 5 1 (.slice (some ⟨w.heap.size, 0, none⟩) n n) n (bcells (bigRow n (n - m) x)) ∧ Below w.heap.size w wr) (fun _ c _ => (intOf c + 1).toNat)
  case atStart => exact ⟨n, Nat.le_refl _, by rw [Nat.sub_self]; simp, rfl, by rw [Nat.sub_self]; exact ho1.out, hb1.out⟩
  case round =>
    obtain ⟨m, hm, rfl, rfl, ho, hb⟩ := hrel
    clear hb1 ho1
    cases m with
    | zero =>
      have e0 : x / 256 ^ (n - 0) = 0 := Nat.div_eq_of_lt (by rw [Nat.sub_zero]; exact hxn)
      rw [Nat.sub_zero] at ho
      have e1 : bigRow n n x = be n x := by rw [bigRow, Nat.sub_self]; rfl
      rw [e1] at ho
      have hcv := run_string_own (P := Tryz.prog) 60 9 Tryz.underlying60 Tryz.underlying5 Tryz.underlying9 ho
      rw [e0]
      replace ho := Lib.hid ho
      replace hb := Lib.hid hb
      have hx0 : (0 : Int) ≤ x := by omega
      clear e0 e1
      go_wp2
      go_ret2
      exact ⟨rfl, hb.out⟩
    | succ j =>
      obtain ⟨y, hy⟩ : ∃ y, y = x / 256 ^ (n - (j + 1)) := ⟨_, rfl⟩
      have e9 : ((j + 1 : Nat) : Int) - 1 = j := by omega
      have hyx : y < 9223372036854775808 := by rw [hy]; exact Nat.lt_of_le_of_lt (Nat.div_le_self _ _) hx
      have hyn : y / 256 = x / 256 ^ (n - j) := by
        rw [hy, Nat.div_div_eq_div_mul, ← Nat.pow_succ]
        congr 2
        omega
      have hset := bigRow_set (n := n) (c := n - (j + 1)) (x := x) (by omega)
      rw [← hy, show n - 1 - (n - (j + 1)) = j by omega, show n - (j + 1) + 1 = n - j by omega] at hset
      have hst := ho.stored j (.int .u8 ((UInt8.ofNat y).toNat : Int))
      rw [hset] at hst
      have hck : ∃ u, wr.cell? ⟨w.heap.size, j, none⟩ = some u := by
        rw [ho.cellAt j (by omega)]
        exact ⟨_, List.getElem?_eq_getElem (by rw [bcells_length, bigRow_len (by omega)]; omega)⟩
      obtain ⟨u, hu⟩ := hck
      have hfz := ho.frozenAt j
      have hand := bits_and255 y hyx
      have hwr : IntKind.u8.wrap ((y % 256 : Nat) : Int) = ((UInt8.ofNat y).toNat : Int) := by rw [IntKind.wrap_u8, UInt8.toNat_ofNat']; omega
      have hjn : (j : Int) < n := by omega
      rw [← hy, e9]
      have hstb := (hb.setCell (Nat.le_refl _) (.int .u8 ((UInt8.ofNat y).toNat : Int)) : Below w.heap.size w (wr.setCell ⟨w.heap.size, j, none⟩ _))
      have ev : ((UInt8.ofNat y).toNat : Int) = (y : Int) % 256 := by rw [UInt8.toNat_ofNat']; omega
      rw [ev] at hst hstb
      replace hst := Lib.hid hst.1
      replace hstb := Lib.hid hstb
      replace hyn := Lib.hid hyn
      have hyq : (y : Int) / 256 = ((x / 256 ^ (n - j) : Nat) : Int) := by rw [← hyn.out]; omega
      replace hyq := Lib.hid hyq
      clear hset ho hb e9 hy ev
      go_wp2
      exact ⟨⟨j, by omega, by rw [hyq.out], rfl, hst.out, hstb.out⟩, by simp [intOf]⟩
end Go.Proofs.YtaecfgakgpndaaaGreat
