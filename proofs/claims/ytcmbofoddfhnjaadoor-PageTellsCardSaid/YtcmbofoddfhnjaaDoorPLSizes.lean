/- The walk of the law PageSizes. No condition but the table of spaces. -/
import Derived.Test.YtcmbofoddfhnjaaDoorPLNames
import Derived.Test.YtcmbofoddfhnjaaDoorPOpen
import Derived.Test.YtcmbofoddfhnjaaDoorFZer
namespace Go.Proofs.YtcmbofoddfhnjaaDoor
open Go.RowKit
attribute [local go_sem] mk_size mk_append lit_append zs_length

theorem wf_bounds {n : Int} (h : (Lit.int .i64 n).wf = true) : -9223372036854775808 ≤ n ∧ n ≤ 9223372036854775807 := by
  simp [Lit.wf] at h
  have e : IntKind.i64.min = -9223372036854775808 := by decide
  exact ⟨by omega, h.2⟩
theorem dec_take {p : Pg} (hp : pgOk p = true) (n : Nat) (hn : n ≤ 400) (h : n ≠ 256) : pdec ((penc p ++ zs 200).take n) = none := by
  have hl := penc_length (pgOk_iff.1 hp).2.2.2.2.2.2
  rw [pdec, if_neg]
  rw [List.length_take, List.length_append, hl, zs_length]
  omega
theorem dec_all {p : Pg} (hp : pgOk p = true) : pdec ((penc p ++ zs 200).take 256) = some p := by
  have hl := penc_length (pgOk_iff.1 hp).2.2.2.2.2.2
  rw [List.take_append_of_le_length (by omega), List.take_of_length_le (by omega), pdec_penc hp]

set_option maxRecDepth 100000 in
set_option maxHeartbeats 1600000 in
theorem pageSizes_walk (v : Value) (p : Pg) (n : Int) (w : World) (hT : Tab w) (hv : IsPage w v p) (w1 : (Lit.int .i64 n).wf = true) :
    Calls Tryd.prog 8 #[v, .int .i64 n] w fun e w' => e = .returned (.bool true) ∧ Below w.heap.size w w' := by
  obtain ⟨rfl, q1, q2, q3, hlb⟩ := hv
  obtain ⟨k, d, x, body⟩ := p
  unfold pgA
  simp only at hlb q1 q2 q3 ⊢
  have hal : ∀ o, Tab (w.alloc o) := fun o => hT.more ((Below.refl _ _).alloc (Nat.le_refl _) _)
  replace hal := Lib.hid hal
  by_cases d1 : 300 < (body.length : Int)
  · go_enter Tryd.func8, Tryd.ntmps8
    go_wp2_with fail
    refine (alive_true _ (hal.out _)).mono ?_
    rintro e w2 ⟨rfl, h2⟩
    go_wp2
    go_ret
    exact ⟨rfl, ((Below.refl _ _).alloc (Nat.le_refl _) _).trans (h2.mono (by simp))⟩
  by_cases d2 : n < 0
  · go_enter Tryd.func8, Tryd.ntmps8
    go_wp2_with fail
    refine (alive_true _ (hal.out _)).mono ?_
    rintro e w2 ⟨rfl, h2⟩
    go_wp2
    go_ret
    exact ⟨rfl, ((Below.refl _ _).alloc (Nat.le_refl _) _).trans (h2.mono (by simp))⟩
  by_cases d3 : 400 < n
  · go_enter Tryd.func8, Tryd.ntmps8
    go_wp2_with fail
    refine (alive_true _ (hal.out _)).mono ?_
    rintro e w2 ⟨rfl, h2⟩
    go_wp2
    go_ret
    exact ⟨rfl, ((Below.refl _ _).alloc (Nat.le_refl _) _).trans (h2.mono (by simp))⟩
  obtain ⟨n, rfl⟩ := Int.eq_ofNat_of_zero_le (show 0 ≤ n by omega)
  obtain ⟨pv, hpv⟩ : ∃ pv, pv = (⟨k, d, x, body⟩ : Pg) := ⟨_, rfl⟩
  cases hok : pgOk pv with
  | false =>
    replace hok := Lib.hid hok
    replace hpv := Lib.hid hpv
    go_enter Tryd.func8, Tryd.ntmps8
    go_wp2_with fail
    refine (alive_true _ (hal.out _)).mono ?_
    rintro e w2 ⟨rfl, h2⟩
    have hS := (PgS.start w k d x body 23).more h2
    obtain ⟨c0, c1, c2, c3, hb2⟩ := hS
    have hT2 := hT.more hb2.out
    clear h2
    go_wp2_with fail
    refine (put_any k d x body _ hT2 (by omega)).mono ?_
    rintro e w3 ⟨rfl, h3⟩
    rw [← hpv.out, putV, if_neg (by rw [hok.out]; decide)]
    go_wp2
    go_ret
    exact ⟨rfl, hb2.out.trans (h3.mono hb2.out.size)⟩
  | true =>
    have hl := penc_length (pgOk_iff.1 hok).2.2.2.2.2.2
    obtain ⟨b, hb⟩ : ∃ b, b = penc pv := ⟨_, rfl⟩
    have hsl := sl_to (b ++ zs 200) n n rfl (by rw [hb, List.length_append, hl, zs_length]; omega)
    have hbl : (mk b).size = 256 := by rw [mk_size, hb, hl]
    have hbl2 : b.length = 256 := by rw [hb, hl]
    obtain ⟨r, hr⟩ : ∃ r, pdec ((b ++ zs 200).take n) = r := ⟨_, rfl⟩
    have hr2 : r = if n = 256 then some pv else none := by
      rw [← hr, hb]
      split
      · rename_i e; rw [e]; exact dec_all hok
      · exact dec_take hok n (by omega) (by assumption)
    replace hr := Lib.hid hr
    replace hok := Lib.hid hok
    replace hpv := Lib.hid hpv
    replace hb := Lib.hid hb
    replace hl := Lib.hid hl
    obtain ⟨i, hi, hz0, hz1, hz2⟩ := info_parts infoU8z
    have hN : ¬ 9223372036854775807 < 456 := by decide
    go_enter Tryd.func8, Tryd.ntmps8
    go_wp2_with fail
    refine (alive_true _ (hal.out _)).mono ?_
    rintro e w2 ⟨rfl, h2⟩
    have hS := (PgS.start w k d x body 23).more h2
    obtain ⟨c0, c1, c2, c3, hb2⟩ := hS
    have hT2 := hT.more hb2.out
    clear h2
    go_wp2_with fail
    refine (put_any k d x body _ hT2 (by omega)).mono ?_
    rintro e w3 ⟨rfl, h3⟩
    rw [← hpv.out, putV, if_pos hok.out, ← hb.out]
    have h3' := Lib.hid (hb2.out.trans (h3.mono hb2.out.size))
    clear h3 hT2 c0 c1 c2 c3 hb2
    go_wp2_with (at_make; refine wpList_make_full _ rfl _ _ 33 rfl w3.heap.size 5 i (.int .u8 0) 1 Tryd.underlying33 hi hz0 hz1 _ _ _ _ 200 rfl rfl rfl rfl (by rw [hz2]; omega) (by unfold maxLen; omega) (Nat.le_refl _) ?_; intro w7 hown hgrow; have hb7 := zeros_made hown hgrow; have hcv := hb7.2; rw [show List.replicate 200 (0 : UInt8) = zs 200 from rfl] at hcv; have h7 := Lib.hid (h3'.out.trans (hb7.1.mono h3'.out.size)); clear hb7 hown hgrow)
    have hT7 := hT.more h7.out
    refine (get_any _ _ hT7 (by rw [List.length_take]; omega)).mono ?_
    rintro e w8 ⟨rfl, h8⟩
    rw [hr.out, hr2]
    have h8' := Lib.hid (h7.out.trans (h8.mono h7.out.size))
    clear h8 hr2
    by_cases c : n = 256
    · have e1 : ((n : Int) == 256) = true := by rw [beq_iff_eq]; omega
      rw [if_pos c, pgV]
      replace c := Lib.hid c
      go_wp2
      go_ret
      exact ⟨rfl, h8'.out.alloc h8'.out.size _⟩
    · have e1 : ((n : Int) == 256) = false := by rw [beq_eq_false_iff_ne]; omega
      rw [if_neg c, pgV]
      replace c := Lib.hid c
      go_wp2
      go_ret
      exact ⟨rfl, h8'.out.alloc h8'.out.size _⟩
end Go.Proofs.YtcmbofoddfhnjaaDoor
