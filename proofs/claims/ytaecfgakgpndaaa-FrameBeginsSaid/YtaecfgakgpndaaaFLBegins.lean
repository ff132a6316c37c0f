/- The walk of the law FrameBegins. No condition. -/
import Derived.Test.YtaecfgakgpndaaaFLCuts
import Derived.Test.YtaecfgakgpndaaaFZer
namespace Go.Proofs.Ytaecfgakgpndaaa
open Go.RowKit
attribute [local go_sem] mk_size mk_append

def z64 : List UInt8 := List.replicate 64 0
theorem scan_zeros (n : Nat) : scan st0 (List.replicate n z64) = st0 := by
  cases n with
  | zero => rfl
  | succ n => exact scan_none _ (take_bad dec_zeros)
theorem scan_late {p : List UInt8} (h : 1 ≤ p.length) (h' : p.length ≤ 56) : scan st0 [enc 1 0 false p, enc 1 0 false p] = st0 := by
  refine scan_none _ (take_enc_none (secOk_iff.2 (by omega)) ?_)
  simp [fits, st0]
/-- Texts that are set one behind the other. -/
def filled (n k : Nat) : Array Value := (List.replicate k (Value.string (mk z64)) ++ List.replicate (n - k) (Value.string ByteArray.empty)).toArray
theorem filled_set (n k : Nat) (h : k < n) : (filled n k).setIfInBounds k (.string (mk z64)) = filled n (k + 1) := by
  unfold filled
  rw [List.setIfInBounds_toArray]
  congr 1
  rw [List.set_append_right _ _ (by simp)]
  simp only [List.length_replicate, Nat.sub_self]
  obtain ⟨m, hm⟩ : ∃ m, n - k = m + 1 := ⟨n - k - 1, by omega⟩
  rw [hm, List.replicate_succ, List.set_cons_zero, show n - (k + 1) = m by omega, List.replicate_succ']
  simp
theorem filled_get (n k : Nat) (h : k < n) : (filled n k)[k]? = some (.string ByteArray.empty) := by
  unfold filled
  rw [List.getElem?_toArray, List.getElem?_append_right (by simp), List.length_replicate, Nat.sub_self, List.getElem?_replicate, if_pos (by omega)]
theorem filled_all (n : Nat) {w : World} {B : Nat} {t : TypeId} (h : w.heap[B]? = some (.cells (filled n n) t (0, 0))) : TAt w (some ⟨B, 0, none⟩) (List.replicate n z64) := fun j hj => by
  refine ⟨B, 0, rfl, cell_of h ?_⟩
  rw [List.length_replicate] at hj
  unfold filled
  simp [hj]
theorem own_full' {w : World} {base g n : Nat} {e : TypeId} {xs : List Value} (h : w.ownsRow base e 1 (.slice (some ⟨g, 0, none⟩) n n) n xs) : w.heap[g]? = some (.cells xs.toArray e (0, 0)) := by
  rcases h.2 with ⟨h0, _⟩ | ⟨g', cap, cur, hv, _, hg, _, _, hs, ht⟩
  · cases h0
  · simp only [Value.slice.injEq, Option.some.injEq, Addr.mk.injEq, and_true, true_and] at hv
    obtain ⟨rfl, rfl⟩ := hv
    rw [List.take_of_length_le (by rw [Array.length_toList, hs]; exact Nat.le_refl _)] at ht
    rw [hg, ← ht]

set_option maxRecDepth 100000 in
set_option maxHeartbeats 1600000 in
theorem frameBegins_walk (s : ByteArray) (n : Int) (w : World) (w0 : s.size ≤ 140737488351232) (w1 : (Lit.int .i64 n).wf = true) :
    Calls Try.prog 10 #[.string s, .int .i64 n] w fun e w' => e = .returned (.bool true) ∧ Below w.heap.size w w' := by
  obtain ⟨p, hp⟩ : ∃ p, s = mk p := ⟨s.data.toList, (mk_of s).symm⟩
  subst hp
  rw [mk_size] at w0
  by_cases d1 : p = []
  · subst d1
    go_enter Try.func10, Try.ntmps10
    go_wp2_with (go_at_call 11; refine (alive_true _).mono ?_; rintro e w3 ⟨rfl, h3⟩)
    go_ret
    exact ⟨rfl, h3⟩
  have d1' : p.isEmpty = false := by cases p with | nil => exact absurd rfl d1 | cons _ _ => rfl
  by_cases d2 : 56 < (p.length : Int)
  · go_enter Try.func10, Try.ntmps10
    go_wp2_with (go_at_call 11; refine (alive_true _).mono ?_; rintro e w3 ⟨rfl, h3⟩)
    go_ret
    exact ⟨rfl, h3⟩
  by_cases d3 : n < 0
  · go_enter Try.func10, Try.ntmps10
    go_wp2_with (go_at_call 11; refine (alive_true _).mono ?_; rintro e w3 ⟨rfl, h3⟩)
    go_ret
    exact ⟨rfl, h3⟩
  by_cases d4 : 20 < n
  · go_enter Try.func10, Try.ntmps10
    go_wp2_with (go_at_call 11; refine (alive_true _).mono ?_; rintro e w3 ⟨rfl, h3⟩)
    go_ret
    exact ⟨rfl, h3⟩
  obtain ⟨n, rfl⟩ := Int.eq_ofNat_of_zero_le (show 0 ≤ n by omega)
  have hpos := List.length_pos_iff.2 d1
  have hpos1 : 1 ≤ p.length := hpos
  have hp56 : p.length ≤ 56 := by omega
  have hok : secOk (1 : Nat) (0 : Nat) p = true := secOk_iff.2 (by omega)
  have hsl := scan_late hpos1 hp56
  have hel : (enc 1 0 false p).length = 64 := enc_length hp56
  have hn20 : n ≤ 20 := by omega
  obtain ⟨b, hb⟩ : ∃ b, b = enc 1 0 false p := ⟨_, rfl⟩
  rw [← hb] at hsl hel
  replace hb := Lib.hid hb
  replace hsl := Lib.hid hsl
  replace hel := Lib.hid hel
  replace hok := Lib.hid hok
  obtain ⟨i, hi, hz0, hz1, hz2⟩ := info_parts infoU8z
  obtain ⟨ii, ji, jz0, jz1, jz2⟩ := info_parts Try.infoStr
  go_enter Try.func10, Try.ntmps10
  go_wp2_with fail
  refine (alive_true _).mono ?_
  rintro e w3 ⟨rfl, h3⟩
  replace h3 := Lib.hid h3
  go_wp2_with fail
  refine (put_yes 1 0 false p _ hok.out).mono ?_
  rintro e w4 ⟨rfl, h4⟩
  replace h4 := Lib.hid (h3.out.trans (h4.mono h3.out.size))
  clear h3
  rw [← hb.out]
  go_wp2_with fail
  refine (scan_n (some ⟨w4.heap.size, 0, none⟩) 2 2 [b, b] st0 _ rfl (by simp) (by simp; rw [hel.out]; omega) (TAt.new [b, b] _ _ rfl) hsl.out).mono ?_
  rintro e w5 ⟨v5, rfl, ho5, h5⟩
  obtain ⟨a5, c5, rfl, _⟩ := TAt.own ho5
  replace h5 := Lib.hid ((h4.out.alloc h4.out.size _).trans (h5.mono (by have := h4.out.size; simp; omega)))
  clear ho5 h4
  go_wp2_with (at_make; refine wpList_make_full _ rfl _ _ 25 rfl w5.heap.size 9 ii (.string ByteArray.empty) 1 Try.underlying25 ji jz0 jz1 _ _ _ _ n rfl rfl rfl rfl (by rw [jz2]; omega) (by unfold maxLen; omega) (Nat.le_refl _) ?_; intro w6 hown hgrow; have hG := own_full' hown; have h6 := Lib.hid (h5.out.grown hgrow h5.out.size (fun k e => by cases e)); have hz6 : w5.heap.size < w6.heap.size := lt_of hG; clear hown hgrow)
  rw [show (Value.string ByteArray.empty).cells = #[Value.string ByteArray.empty] from rfl, toList_madeCells_one, Nat.mul_one] at hG
  have hG0 : w6.heap[w5.heap.size]? = some (.cells (filled n 0) 9 (0, 0)) := by rw [hG]; simp [filled]
  replace hG0 := Lib.hid hG0
  have hbase := h5.out.size
  clear hG h5
  go_loopw [53] (fun x wr => ∃ k : Nat, k ≤ n ∧ x = .int .i64 k ∧ wr.heap[w5.heap.size]? = some (.cells (filled n k) 9 (0, 0)) ∧ Below w.heap.size w wr) (fun x _ => n - (intOf x).toNat)
  case atStart => exact ⟨0, Nat.zero_le _, rfl, hG0.out, h6.out⟩
  case round =>
    obtain ⟨k, hk, rfl, hG, hbw⟩ := hrel
    replace hbw := Lib.hid hbw
    clear hG0 h6
    by_cases hlt : k < n
    · have hzr : w5.heap.size < wr.heap.size := lt_of hG
      replace hG := Lib.hid hG
      go_wp2_with (at_make; refine wpList_make_full _ rfl _ _ 46 rfl wr.heap.size 5 i (.int .u8 0) 1 Try.underlying46 hi hz0 hz1 _ _ _ _ 64 rfl rfl rfl rfl (by rw [hz2]; omega) (by unfold maxLen; omega) (Nat.le_refl _) ?_; intro w7 hown hgrow; have hb7 := zeros_made hown hgrow; have hcv := hb7.2; rw [show List.replicate 64 (0 : UInt8) = z64 from rfl] at hcv; have hG7 := (hb7.1.block _ hzr).trans hG.out; have h7 := Lib.hid (hbw.out.trans (hb7.1.mono hbw.out.size)); have g7 : w7.cell? ⟨w5.heap.size, k, none⟩ = some (.string ByteArray.empty) := cell_of hG7 (filled_get n k hlt); have f7 : w7.frozen? ⟨w5.heap.size, k, none⟩ = false := free_of hG7; replace hG7 := Lib.hid hG7; clear hb7 hown hgrow)
      go_roundw
      case rel =>
        refine ⟨k + 1, hlt, by go_num, ?_, h7.out.setCell hbase _⟩
        rw [heap_setCell hG7.out, filled_set n k hlt]
      case measure => simp [intOf]; omega
    · obtain rfl : k = n := by omega
      have hta := filled_all k hG
      replace hta := Lib.hid hta
      replace hG := Lib.hid hG
      go_wp2_with fail
      refine (scan_n (some ⟨w5.heap.size, 0, none⟩) k k (List.replicate k z64) st0 _ (by simp) (by simp; omega) (by intro x hx; rw [List.eq_of_mem_replicate hx]; simp [z64]) hta.out (scan_zeros k)).mono ?_
      rintro e w8 ⟨v8, rfl, ho8, h8⟩
      obtain ⟨a8, c8, rfl, _⟩ := TAt.own ho8
      replace h8 := Lib.hid (hbw.out.trans (h8.mono hbw.out.size))
      clear ho8
      go_wp2
      go_ret
      exact ⟨rfl, h8.out⟩
end Go.Proofs.Ytaecfgakgpndaaa
