/- Batch of package frame, where a sector may not be. No condition. -/
import Derived.Test.YtofejnhnnmnfpaaDoorFBatch
namespace Go.Proofs.YtofejnhnnmnfpaaDoor.Fr
set_option maxRecDepth 100000
open Go.RowKit

set_option maxRecDepth 100000 in
set_option maxHeartbeats 1600000 in
theorem batch_over (e i : Nat) (a : Option Addr) (c : Nat) (l : List (List UInt8)) (w : World) (hl : (stream l).length ≤ 1000000) (ha : TAt w a l) (hok : recsOk l) (hne : l ≠ []) (he : 1 ≤ e) (he' : e ≤ 4294967295) (hi0 : i ≤ 65535) (hi : 65536 < i + cnt l) :
    Calls Tryd.prog 34 #[.int .i64 e, .int .i64 i, .slice a l.length c] w fun en w' => en = .returned (.tuple #[.slice none 0 0, .bool false]) ∧ Below w.heap.size w w' := by
  obtain ⟨ii, hii, hz0, hz1, hz2⟩ := info_parts Tryd.infoStr
  have hS := bytesOf_ok hok
  have hSne := stream_ne hne
  obtain ⟨S, hSS⟩ : ∃ S, S = stream l := ⟨_, rfl⟩
  have hcnt : cnt l = (S.length + 55) / 56 := by rw [cnt, hSS]
  rw [← hSS] at hS hSne hl
  have hSl := secs_len e i true S
  rw [hcnt] at hi
  replace hcnt := Lib.hid hcnt
  obtain ⟨n, hn⟩ : ∃ n, n = (S.length + 55) / 56 := ⟨_, rfl⟩
  rw [← hn] at hi hSl
  have hpos := List.length_pos_iff.2 hSne
  replace hS := Lib.hid hS
  replace hSl := Lib.hid hSl
  have hn1 : 56 * n < S.length + 56 := by omega
  have hn2 : S.length ≤ 56 * n := by omega
  replace hn := Lib.hid hn
  have hemp : S.isEmpty = false := by cases S with | nil => exact absurd rfl hSne | cons _ _ => rfl
  replace hSS := Lib.hid hSS
  clear hSne hpos
  go_enter Tryd.func34, Tryd.ntmps34
  go_wp2_with fail
  refine (bytes_any a c l _ (by rw [← hSS.out]; omega) ha).mono ?_
  rintro en w1 ⟨rfl, hb1⟩
  rw [hS.out]
  replace hb1 := Lib.hid hb1
  clear ha
  go_wp2
  go_loopw [8, 9, 10, 1] (fun b v f x wr => ∃ k : Nat, k ≤ 65536 - i ∧ b = .string (mk (S.drop (56 * k))) ∧ f = .bool (decide (k = 0)) ∧ x = .int .i64 ((i : Int) + k) ∧ wr.ownsRow w.heap.size 9 1 v ((secs e i true S).take k).length (scells ((secs e i true S).take k)) ∧ Below w.heap.size w wr) (fun _ _ _ x _ => (i : Nat) + n - (intOf x).toNat)
  case atStart => exact ⟨0, Nat.zero_le _, rfl, rfl, by simp, World.ownsRow_nil _ _ _ _, hb1.out⟩
  case round =>
    obtain ⟨k, hk, rfl, rfl, rfl, ho, hb⟩ := hrel
    replace ho := Lib.hid ho
    replace hb := Lib.hid hb
    clear hb1
    have hlt : k < n := by omega
    by_cases hJ : k < 65536 - i
    · obtain ⟨R, hR⟩ : ∃ R, R = S.drop (56 * k) := ⟨_, rfl⟩
      have hRl : R.length = S.length - 56 * k := by rw [hR, List.length_drop]
      have hRpos : 1 ≤ R.length := by omega
      have hRemp : R.isEmpty = false := by cases R with | nil => simp at hRpos | cons _ _ => rfl
      have hRmax : R.length ≤ 1000000 := by omega
      have hsec : (secs e i true S).take (k + 1) = (secs e i true S).take k ++ [enc e (i + k) (decide (k = 0)) (R.take 56)] := by
        have hlt' : k < (secs e i true S).length := by rw [hSl.out]; exact hlt
        rw [List.take_succ_eq_append_getElem hlt', secs_get, ← hR]
        simp
      have hd : S.drop (56 * (k + 1)) = R.drop 56 := by rw [hR, List.drop_drop]; congr 1
      have hok2 : secOk e ((i + k : Nat) : Int) (R.take 56) = true := secOk_iff.2 (by simp only [List.length_take]; omega)
      have hln : ((secs e i true S).take k).length ≤ 65536 := by rw [List.length_take]; omega
      rw [← hR]
      clear hRl
      replace hR := Lib.hid hR
      replace hsec := Lib.hid hsec
      replace hd := Lib.hid hd
      replace hok2 := Lib.hid hok2
      obtain ⟨m, hm⟩ : ∃ m, m = min R.length 56 := ⟨_, rfl⟩
      have hmin : min (((mk R).size : Nat) : Int) 56 = (m : Int) := by rw [mk_size, hm]; omega
      have hx1 : (mk R).extract 0 m = mk (R.take 56) := by
        rw [mk_take, hm]
        by_cases c : R.length ≤ 56
        · rw [Nat.min_eq_left c, List.take_of_length_le (Nat.le_refl _), List.take_of_length_le c]
        · rw [Nat.min_eq_right (by omega)]
      have hx2 : (mk R).extract m (mk R).size = mk (R.drop 56) := by
        rw [mk_size, mk_drop _ _ (by omega), hm]
        by_cases c : R.length ≤ 56
        · rw [Nat.min_eq_left c, List.drop_of_length_le (Nat.le_refl _), List.drop_of_length_le c]
        · rw [Nat.min_eq_right (by omega)]
      have hm1 : (m : Int) ≤ ((mk R).size : Int) := by rw [mk_size]; omega
      have hm2 : m ≤ 56 := by omega
      replace hm := Lib.hid hm
      go_wp2_with fail
      refine (put_yes' e (i + k) _ _ (R.take 56) _ hok2.out (by omega)).mono ?_
      rintro en w2 ⟨rfl, hb2⟩
      have ho2 := Lib.hid ((Chg.of_below hb2).row ho.out (fun _ _ => id))
      have hbb2 := Lib.hid (hb.out.trans (hb2.mono hb.out.size))
      clear hb2 ho
      obtain ⟨ec, hec⟩ : ∃ ec, ec = enc e (i + k) (decide (k = 0)) (R.take 56) := ⟨_, rfl⟩
      rw [← hec] at hsec ⊢
      replace hec := Lib.hid hec
      go_wp2_with (at_builtin; refine wpList_append_own' rfl (.tmp 36) (.tmp 38) 56 rfl w.heap.size 9 ii (.string ByteArray.empty) 1 16 Tryd.underlying56 hii hz0 hz1 hz2 rfl (by decide) _ _ _ rfl (ho2.out.alloc _) ⟨w2.heap.size, 0, none⟩ 1 1 [.string (mk ec)] rfl rfl (new_one _ _ _ rfl) (by intro u hu; simp at hu; subst hu; rfl) (by unfold maxLen; omega) (by omega) (by have := hbb2.out.size; simp; omega) ?_; intro v' w3 hown' hgrow hrow; have hn1 := grow_strs ho2.out hbb2.out hgrow; have HO' := Lib.hid hown'; replace hn1 := Lib.hid hn1; clear hown' hgrow hrow ho2 hbb2)
      go_roundw
      case rel =>
        refine ⟨k + 1, by omega, by rw [hd.out], by simp, by go_num, ?_, hn1.out⟩
        rw [hsec.out, scells_append, List.length_append]
        exact HO'.out
      case measure => simp [intOf]; omega
    · obtain rfl : k = 65536 - i := by omega
      obtain ⟨R, hR⟩ : ∃ R, R = S.drop (56 * (65536 - i)) := ⟨_, rfl⟩
      have hRl : R.length = S.length - 56 * (65536 - i) := by rw [hR, List.length_drop]
      have hRpos : 1 ≤ R.length := by omega
      have hRemp : R.isEmpty = false := by cases R with | nil => simp at hRpos | cons _ _ => rfl
      have hRmax : R.length ≤ 1000000 := by omega
      have hno2 : secOk e ((i : Int) + (65536 - i : Nat)) (R.take 56) = false := by
        rw [Bool.eq_false_iff]
        intro h
        have := (secOk_iff.1 h).2.2.2.1
        omega
      rw [← hR]
      clear hRl
      replace hR := Lib.hid hR
      replace hno2 := Lib.hid hno2
      obtain ⟨m, hm⟩ : ∃ m, m = min R.length 56 := ⟨_, rfl⟩
      have hmin : min (((mk R).size : Nat) : Int) 56 = (m : Int) := by rw [mk_size, hm]; omega
      have hx1 : (mk R).extract 0 m = mk (R.take 56) := by
        rw [mk_take, hm]
        by_cases c : R.length ≤ 56
        · rw [Nat.min_eq_left c, List.take_of_length_le (Nat.le_refl _), List.take_of_length_le c]
        · rw [Nat.min_eq_right (by omega)]
      have hm1 : (m : Int) ≤ ((mk R).size : Int) := by rw [mk_size]; omega
      have hm2 : m ≤ 56 := by omega
      have htl : (R.take 56).length ≤ 140737488351232 := by rw [List.length_take]; omega
      replace hm := Lib.hid hm
      obtain ⟨y, hy⟩ : ∃ y : Int, y = (i : Int) + (65536 - i : Nat) := ⟨_, rfl⟩
      rw [← hy] at hno2 ⊢
      replace hy := Lib.hid hy
      go_wp2_with fail
      refine (put_no e y _ (R.take 56) _ htl hno2.out).mono ?_
      rintro en w2 ⟨rfl, hb2⟩
      have hbb2 := Lib.hid (hb.out.trans (hb2.mono hb.out.size))
      clear hb2 ho
      go_wp2
      go_ret2
      exact ⟨rfl, hbb2.out⟩
/-- The first sector may not be. -/
theorem batch_bad (e i : Int) (a : Option Addr) (c : Nat) (l : List (List UInt8)) (w : World) (hl : (stream l).length ≤ 1000000) (ha : TAt w a l) (hok : recsOk l) (hne : l ≠ []) (hbad : ∀ p, secOk e i p = false) :
    Calls Tryd.prog 34 #[.int .i64 e, .int .i64 i, .slice a l.length c] w fun en w' => en = .returned (.tuple #[.slice none 0 0, .bool false]) ∧ Below w.heap.size w w' := by
  have hS := bytesOf_ok hok
  have hSne := stream_ne hne
  obtain ⟨S, hSS⟩ : ∃ S, S = stream l := ⟨_, rfl⟩
  rw [← hSS] at hS hSne hl
  replace hS := Lib.hid hS
  have hemp : S.isEmpty = false := by cases S with | nil => exact absurd rfl hSne | cons _ _ => rfl
  replace hSS := Lib.hid hSS
  replace hbad := Lib.hid hbad
  obtain ⟨m, hm⟩ : ∃ m, m = min S.length 56 := ⟨_, rfl⟩
  have hmin : min (((mk S).size : Nat) : Int) 56 = (m : Int) := by rw [mk_size, hm]; omega
  have hx1 : (mk S).extract 0 m = mk (S.take 56) := by
    rw [mk_take, hm]
    by_cases c : S.length ≤ 56
    · rw [Nat.min_eq_left c, List.take_of_length_le (Nat.le_refl _), List.take_of_length_le c]
    · rw [Nat.min_eq_right (by omega)]
  have hm1 : (m : Int) ≤ ((mk S).size : Int) := by rw [mk_size]; omega
  have hm2 : m ≤ 56 := by omega
  have htl : (S.take 56).length ≤ 140737488351232 := by rw [List.length_take]; omega
  replace hm := Lib.hid hm
  clear hSne
  go_enter Tryd.func34, Tryd.ntmps34
  go_wp2_with fail
  refine (bytes_any a c l _ (by rw [← hSS.out]; omega) ha).mono ?_
  rintro en w1 ⟨rfl, hb1⟩
  rw [hS.out]
  replace hb1 := Lib.hid hb1
  clear ha
  go_wp2
  go_loopw [8, 9, 10, 1] (fun b v f x wr => b = .string (mk S) ∧ f = .bool true ∧ x = .int .i64 i ∧ wr = w1) (fun _ _ _ _ _ => 0)
  case atStart => exact ⟨rfl, rfl, rfl, rfl⟩
  case round =>
    obtain ⟨rfl, rfl, rfl, rfl⟩ := hrel
    go_wp2_with fail
    refine (put_no e i _ (S.take 56) _ htl (hbad.out _)).mono ?_
    rintro en w2 ⟨rfl, hb2⟩
    have hbb2 := Lib.hid (hb1.out.trans (hb2.mono hb1.out.size))
    clear hb2
    go_wp2
    go_ret2
    exact ⟨rfl, hbb2.out⟩
end Go.Proofs.YtofejnhnnmnfpaaDoor.Fr
