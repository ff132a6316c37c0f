/- slices.Repeat of one text. No condition. -/
import Derived.Test.YtofejnhnnmnfpaaDoorShelf
import Derived.Test.YtofejnhnnmnfpaaDoorBase
import Derived.Laws.CopyOwn
import Derived.Outline
import Derived.Handy
namespace Go.Proofs.YtofejnhnnmnfpaaDoor.Dq
set_option maxRecDepth 100000
open Go.RowKit

theorem Tryd.infoStr : (Tryd.prog.info? 9).map (fun i => (i.zero, i.size, i.bytes)) = some (some (Value.string ByteArray.empty), 1, 16) := by kernel_rfl

theorem mul_one' (n : Nat) (w : World) (h : n ≤ 10000) : Calls Tryd.prog 48 #[.int .u64 1, .int .u64 n] w fun e w' => e = .returned (.tuple #[.int .u64 0, .int .u64 n]) ∧ w = w' := by
  refine (Go.Proofs.Tryd.bits_Mul 1 n (by omega) (by omega) w).mono fun e w' ⟨he, hw⟩ => ⟨?_, hw.symm⟩
  rw [he]
  have e1 : ((1 * n / 18446744073709551616 : Nat) : Int) = 0 := by omega
  have e2 : ((1 * n % 18446744073709551616 : Nat) : Int) = n := by omega
  rw [e1, e2]

/-- A row that is full: its block. -/
theorem own_full {w : World} {base g n : Nat} {e : TypeId} {xs : List Value} (h : w.ownsRow base e 1 (.slice (some ⟨g, 0, none⟩) n n) n xs) : w.heap[g]? = some (.cells xs.toArray e (0, 0)) := by
  rcases h.2 with ⟨h0, _⟩ | ⟨g', cap, cur, hv, _, hg, _, _, hs, ht⟩
  · cases h0
  · simp only [Value.slice.injEq, Option.some.injEq, Addr.mk.injEq, and_true, true_and] at hv
    obtain ⟨rfl, rfl⟩ := hv
    rw [List.take_of_length_le (by rw [Array.length_toList, hs]; exact Nat.le_refl _)] at ht
    rw [hg, ← ht]

theorem rep_made {w w1 : World} {g n : Nat} {s : ByteArray} {z : Value} (hg : w.heap[g]? = some (.cells #[Value.string s] 9 (0, 0)))
    (hown : w1.ownsRow w.heap.size 9 1 (.slice (some ⟨w.heap.size, 0, none⟩) n n) n (madeCells z.cells (n * 1)).toList) (hgrow : w.grownBy w1 none) (hz : z.cells = #[z]) :
    w1.heap[w.heap.size]? = some (.cells (List.replicate n z).toArray 9 (0, 0)) ∧ Below w.heap.size w w1 ∧ ∀ j v, [Value.string s][j]? = some v → w1.cell? ((⟨g, 0, none⟩ : Addr).add j) = some v := by
  have hb1 : Below w.heap.size w w1 := (Below.refl _ _).grown hgrow (Nat.le_refl _) (fun _ h => by cases h)
  have hG := own_full hown
  rw [hz, toList_madeCells_one, Nat.mul_one] at hG
  refine ⟨hG, hb1, fun j v hj => ?_⟩
  match j, hj with
  | 0, hj =>
    simp at hj
    subst hj
    have hlt := lt_of hg
    rw [show ((⟨g, 0, none⟩ : Addr).add 0) = ⟨g, 0, none⟩ by simp [Addr.add], hb1.cell (p := ⟨g, 0, none⟩) hlt]
    exact cell_of hg rfl

theorem splice_rep (s z : Value) (n k m : Nat) (hk : k + m ≤ n) : splice (List.replicate k s ++ List.replicate (n - k) z) k (List.replicate m s) = List.replicate (k + m) s ++ List.replicate (n - (k + m)) z := by
  unfold splice
  rw [List.take_append_of_le_length (by simp), List.take_of_length_le (by simp), List.length_replicate, List.drop_append, List.drop_of_length_le (by simp), List.nil_append, List.length_replicate, List.drop_replicate]
  rw [← List.append_assoc, List.replicate_append_replicate]
  congr 2
  omega

set_option maxHeartbeats 400000 in
theorem repeat_one (g : Nat) (s : ByteArray) (n : Nat) (w : World) (h1 : 1 ≤ n) (h2 : n ≤ 10000) (hg : w.heap[g]? = some (.cells #[Value.string s] 9 (0, 0))) :
    Calls Tryd.prog 26 #[.slice (some ⟨g, 0, none⟩) 1 1, .int .i64 n] w fun e w' => ∃ v, e = .returned v ∧ w'.ownsRow w.heap.size 9 1 v n (List.replicate n (Value.string s)) ∧ Below w.heap.size w w' := by
  obtain ⟨i, hi, hz0, hz1, hz2⟩ := info_parts Tryd.infoStr
  have hmin := Lib.hid (show [Value.string s].length = Nat.min 1 n by show 1 = min 1 n; omega)
  have hone := Lib.hid (show ∀ v ∈ [Value.string s], v.oneCell' = true by intro v hv; have := List.mem_singleton.1 hv; subst this; rfl)
  go_enter Tryd.func26, Tryd.ntmps26
  go_wp2_with fail
  refine (mul_one' n _ (by omega)).mono ?_
  rintro e w' ⟨rfl, rfl⟩
  go_wp2_with (first
    | (at_make; refine wpList_make_full _ rfl _ _ 56 rfl w.heap.size 9 i (Value.string ByteArray.empty) 1 Tryd.underlying56 hi hz0 hz1 _ _ _ _ n rfl rfl rfl rfl (by rw [hz2]; omega) (by unfold maxLen; omega) (Nat.le_refl _) ?_; intro w1 hown hgrow; obtain ⟨hG0, hb1, hg1⟩ := rep_made hg hown hgrow rfl; have HG := Lib.hid hG0; have hg1' := Lib.hid hg1; clear hown hgrow hG0 hg1)
    | (with_reducible refine wpList_copy_splice rfl (.tmp 31) (.tmp 32) 56 56 rfl 9 Tryd.underlying56 (by rw [hi, Option.map_some, hz1]) (some ⟨w.heap.size, 0, none⟩) (some ⟨g, 0, none⟩) n n 1 1 rfl rfl w.heap.size 0 (List.replicate n (Value.string ByteArray.empty)) 9 HG.out [Value.string s] hmin.out (fun _ => ⟨rfl, _, rfl, hg1'.out⟩) (by simp; omega) hone.out w.heap.size w hb1 (Nat.le_refl _) ?_; intro w2 HG2 hb2; clear hb1 HG hg1'))
  go_loopw [8] (fun c wr => ∃ k : Nat, 1 ≤ k ∧ k ≤ n ∧ c = .int .i64 k ∧ wr.heap[w.heap.size]? = some (.cells (List.replicate k (Value.string s) ++ List.replicate (n - k) (Value.string ByteArray.empty)).toArray 9 (0, 0)) ∧ Below w.heap.size w wr) (fun c _ => n - (intOf c).toNat)
  case atStart =>
    refine ⟨1, Nat.le_refl _, h1, rfl, ?_, hb2⟩
    have := splice_rep (Value.string s) (Value.string ByteArray.empty) n 0 1 (by omega)
    simp only [List.replicate_zero, List.nil_append, Nat.sub_zero, Nat.zero_add, List.replicate_one] at this
    rw [List.replicate_one, ← this]
    exact HG2.out
  case round =>
    obtain ⟨k, hk1, hkn, rfl, hG, hb⟩ := hrel
    have HG3 := Lib.hid hG
    have hcells : ∀ j v, (List.replicate k (Value.string s) ++ List.replicate (n - k) (Value.string ByteArray.empty))[j]? = some v → wr.cell? ⟨w.heap.size, j, none⟩ = some v := fun j v hj => cell_of hG (by simpa using hj)
    have HC := Lib.hid hcells
    clear hG hcells
    by_cases hlt : k < n
    · obtain ⟨m, hm⟩ : ∃ m, m = min k (n - k) := ⟨_, rfl⟩
      have hm1 : 1 ≤ m := by omega
      have hm2 : k + m ≤ n := by omega
      have hmk : m ≤ k := by omega
      have hl := Lib.hid (show (List.replicate m (Value.string s)).length = Nat.min k (n - k) by rw [List.length_replicate]; exact hm)
      have ho := Lib.hid (show ∀ v ∈ List.replicate m (Value.string s), v.oneCell' = true by intro v hv; have := List.eq_of_mem_replicate hv; subst this; rfl)
      have hx := Lib.hid (show ∀ j v, (List.replicate m (Value.string s))[j]? = some v → wr.drew.cell? ((⟨w.heap.size, 0, none⟩ : Addr).add j) = some v by
        intro j v hj
        have hj' : j < m := by have := (List.getElem?_eq_some_iff.1 hj).1; simpa using this
        rw [Addr.add_lit, Nat.zero_add, World.cell?_drew]
        refine HC.out j v ?_
        rw [List.getElem?_append_left (by simp; omega)]
        simp only [List.getElem?_replicate] at hj ⊢
        rw [if_pos hj'] at hj
        rw [if_pos (by omega)]
        exact hj)
      have hf := Lib.hid (show k + (List.replicate m (Value.string s)).length ≤ (List.replicate k (Value.string s) ++ List.replicate (n - k) (Value.string ByteArray.empty)).length by simp; omega)
      have hlr := Lib.hid (show (List.replicate m (Value.string s)).length = m by simp)
      have hws : IntKind.i64.wrap ((k : Int) + m) = k + m := IntWalk.i64_in _ (by omega)
      have hsp := Lib.hid (splice_rep (Value.string s) (Value.string ByteArray.empty) n k m hm2)
      have hne : ¬ n = k := by omega
      have hle : k ≤ n := by omega
      clear hm HC
      go_wp2
      go_region_law (refine step_copy_splice rfl (.tmp 41) (.tmp 44) 56 56 rfl 9 Tryd.underlying56 (by rw [hi, Option.map_some, hz1]) (some ⟨w.heap.size, k, none⟩) (some ⟨w.heap.size, 0, none⟩) (n - k) (n - k) k n (by simp [Act.eval, Act.put]) (by simp [Act.eval, Act.put]) w.heap.size k (List.replicate k (Value.string s) ++ List.replicate (n - k) (Value.string ByteArray.empty)) 9 HG3.out (List.replicate m (Value.string s)) hl.out (fun _ => ⟨rfl, _, rfl, hx.out⟩) hf.out ho.out w.heap.size w hb.drew (Nat.le_refl _) ?_; intro w3 HG4 hb4; rw [hlr.out])
      go_wp2
      go_roundw
      case rel =>
        have hfin : w3.heap[w.heap.size]? = some (.cells (List.replicate (k + m) (Value.string s) ++ List.replicate (n - (k + m)) (Value.string ByteArray.empty)).toArray 9 (0, 0)) := by rw [← hsp.out]; exact HG4.out
        (repeat apply Exists.intro)
        exact ⟨⟨k + m, by omega, hm2, rfl, hfin, hb4⟩, rfl⟩
      case measure => clear hws; simp [intOf, Act.put]; omega
    · go_wp2
      go_ret
      have e : k = n := by omega
      subst e
      refine ⟨_, rfl, ⟨by simp, .inr ⟨w.heap.size, k, _, rfl, Nat.le_refl _, HG3.out, Nat.le_refl _, by unfold maxLen; omega, by simp, by simp⟩⟩, hb⟩
end Go.Proofs.YtofejnhnnmnfpaaDoor.Dq
