/- The walk of the law FramePlaces. No condition. -/
import Derived.Test.YtaecfgakgpndaaaFLaws1
import Derived.Test.YtaecfgakgpndaaaFOpen
namespace Go.Proofs.Ytaecfgakgpndaaa
open Go.RowKit
attribute [local go_sem] mk_size mk_append

theorem few_bounds {l : List (List UInt8)} (h : fewB l = true) : l.length ≤ 20 ∧ (stream l).length ≤ 1540 ∧ ∀ b ∈ l, b.length ≤ 1500 := by
  obtain ⟨h1, h2⟩ := fewB_iff.1 h
  exact ⟨h1, by rw [stream_tot]; omega, fun b hb => Nat.le_trans (tot_mem hb) h2⟩
theorem cnt_few {l : List (List UInt8)} (h : fewB l = true) : cnt l ≤ 28 := by have := (few_bounds h).2.1; rw [cnt]; omega
theorem sec_size {e i : Nat} {f : Bool} {b : List UInt8} : ∀ x ∈ secs e i f b, x.length ≤ 140737488351232 := by
  intro x hx
  obtain ⟨k, hk, rfl⟩ := List.getElem_of_mem hx
  rw [secs_get, enc_length (by simp; omega)]
  omega
theorem scan_off (e i : Nat) (b : List UInt8) (he : 1 ≤ e) (he' : e ≤ 4294967295) (hi : i ≠ 0) (hi' : i ≤ 65535) : scan st0 (secs e i true b) = st0 := by
  by_cases c : b = []
  · subst c; rw [secs_nil]; rfl
  · rw [secs_cons c]
    have hp := List.length_pos_iff.2 c
    refine scan_none _ (take_enc_none (secOk_iff.2 (by simp only [List.length_take]; omega)) ?_)
    simp [fits, st0, hi]

set_option maxHeartbeats 1600000 in
theorem framePlaces_walk (v : Value) (l : List (List UInt8)) (off : Int) (w : World) (hv : IsTexts w v l) (w1 : (Lit.int .i64 off).wf = true) :
    Calls Try.prog 9 #[v, .int .i64 off] w fun e w' => e = .returned (.bool true) ∧ Below w.heap.size w w' := by
  obtain ⟨a, c, rfl, ha, hlen, hz⟩ := hv
  cases hf : fewB l with
  | false =>
    go_enter Try.func9, Try.ntmps9
    go_wp2_with fail
    refine (few_any a c l _ ha hlen hz).mono ?_
    rintro e w2 ⟨rfl, rfl⟩
    rw [hf]
    go_wp2_with (go_at_call 11; refine (alive_true _).mono ?_; rintro e w3 ⟨rfl, h3⟩)
    go_ret
    exact ⟨rfl, h3⟩
  | true =>
    by_cases c1 : off < 1
    · go_enter Try.func9, Try.ntmps9
      go_wp2_with fail
      refine (few_any a c l _ ha hlen hz).mono ?_
      rintro e w2 ⟨rfl, rfl⟩
      rw [hf]
      go_wp2_with (go_at_call 11; refine (alive_true _).mono ?_; rintro e w3 ⟨rfl, h3⟩)
      go_ret
      exact ⟨rfl, h3⟩
    by_cases c2 : 20 < off
    · go_enter Try.func9, Try.ntmps9
      go_wp2_with fail
      refine (few_any a c l _ ha hlen hz).mono ?_
      rintro e w2 ⟨rfl, rfl⟩
      rw [hf]
      go_wp2_with (go_at_call 11; refine (alive_true _).mono ?_; rintro e w3 ⟨rfl, h3⟩)
      go_ret
      exact ⟨rfl, h3⟩
    obtain ⟨n, rfl⟩ := Int.eq_ofNat_of_zero_le (show 0 ≤ off by omega)
    have hb := few_bounds hf
    have hc := cnt_few hf
    have hcl : (secs 4 n true (stream l)).length = cnt l := secs_len _ _ _ _
    have hso := scan_off 4 n (stream l) (by omega) (by omega) (by omega) (by omega)
    go_enter Try.func9, Try.ntmps9
    go_wp2_with fail
    refine (few_any a c l _ ha hlen hz).mono ?_
    rintro e w2 ⟨rfl, rfl⟩
    rw [hf]
    go_wp2_with fail
    refine (alive_true _).mono ?_
    rintro e w3 ⟨rfl, h3⟩
    have ha3 := ha.more h3
    replace h3 := Lib.hid h3
    replace ha3 := Lib.hid ha3
    by_cases c3 : bytesOf l = []
    · go_wp2_with fail
      refine (batch_none 4 n a c l _ (by omega) ha3.out c3).mono ?_
      rintro e w4 ⟨rfl, h4⟩
      replace h4 := Lib.hid (h3.out.trans (h4.mono h3.out.size))
      go_wp2
      go_ret
      exact ⟨rfl, h4.out⟩
    · have hok : recsOk l := by by_cases h : recsOk l; exact h; exact absurd (bytesOf_bad h) c3
      have hne : l ≠ [] := by intro h; subst h; exact c3 (by decide)
      replace c3 := Lib.hid c3
      replace hso := Lib.hid hso
      replace hcl := Lib.hid hcl
      go_wp2_with fail
      refine (batch_yes 4 n a c l _ (by omega) ha3.out hok hne (by omega) (by omega) (by omega)).mono ?_
      rintro e w4 ⟨v4, rfl, ho4, h4⟩
      obtain ⟨a4, c4, rfl, ht4⟩ := TAt.own ho4
      replace h4 := Lib.hid (h3.out.trans (h4.mono h3.out.size))
      clear ho4
      go_wp2_with fail
      refine (scan_any a4 c4 _ st0 _ (by rw [hcl.out]; omega) sec_size ht4 hso.out).mono ?_
      rintro e w5 ⟨v5, rfl, ho5, h5⟩
      obtain ⟨a5, c5, rfl, ht5⟩ := TAt.own ho5
      replace h5 := Lib.hid (h4.out.trans (h5.mono h4.out.size))
      clear ho5 ht5 ht4
      go_wp2
      go_ret
      exact ⟨rfl, h5.out⟩
end Go.Proofs.Ytaecfgakgpndaaa
