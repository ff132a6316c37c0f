/- Records as bytes, their count, their sectors, by the document. No condition. -/
import Derived.Test.YtaecfgakgpndaaaGreatFR2
import Derived.Test.YtaecfgakgpndaaaGreatFBa
import Derived.BigQuiet
import Derived.Deep.QuietTactic
namespace Go.Proofs.YtaecfgakgpndaaaGreat
open Go.RowKit
attribute [local go_sem] mk_size mk_append

set_option maxRecDepth 100000 in
theorem rtext_any (r : List UInt8) (w : World) (hr : r.length ≤ 65535) : Calls Tryz.prog 77 #[.string (mk r)] w fun e w' => e = .returned (.string (mk (be 2 r.length ++ r))) ∧ Below w.heap.size w w' := by
  have hb : ¬ 9223372036854775807 < 2 + r.length := by omega
  go_enter Tryz.func77, Tryz.ntmps77
  go_wp2_with fail
  refine (num_any r.length _ (by omega)).mono ?_
  rintro e w1 ⟨rfl, hb1⟩
  have hl2 : (be 2 r.length).length = 2 := be_length _ _
  go_wp2
  go_ret
  exact ⟨rfl, hb1⟩
theorem stream_ge : ∀ l : List (List UInt8), l.length ≤ (stream l).length
  | [] => Nat.zero_le _
  | r :: l => by
    have := stream_ge l
    rw [stream_cons, List.length_append, List.length_append, be_length, List.length_cons]
    omega
set_option maxRecDepth 100000 in
set_option maxHeartbeats 3200000 in
theorem rstream_any (a : Option Addr) (c : Nat) (l : List (List UInt8)) (w : World) (hl : (stream l).length ≤ 1000000) (ha : TAt w a l) :
    Calls Tryz.prog 32 #[.slice a l.length c] w fun e w' => e = .returned (.tuple #[.string (mk (bytesOf l)), .bool (recsOkB l && !l.isEmpty)]) ∧ Below w.heap.size w w' := by
  obtain ⟨n, hn⟩ : ∃ n, n = l.length := ⟨_, rfl⟩
  rw [← hn]
  have hn6 : n ≤ 1000000 := by rw [hn]; exact Nat.le_trans (stream_ge l) hl
  replace ha := Lib.hid ha
  replace hl := Lib.hid hl
  replace hn := Lib.hid hn
  go_enter Tryz.func32, Tryz.ntmps32
  go_wp2
  go_loopw [4, 5] (fun v i wr => ∃ k : Nat, k ≤ n ∧ i = .int .i64 k ∧ v = .string (mk (stream (l.take k))) ∧ Aside (recsOk (l.take k) ∧ Below w.heap.size w wr)) (fun _ i _ => n - (intOf i).toNat)
  case atStart => exact ⟨0, Nat.zero_le _, rfl, rfl, fun r hr => by simp at hr, Below.refl _ _⟩
  case round =>
    obtain ⟨k, hk, rfl, rfl, hA⟩ := hrel
    obtain ⟨hok, hb⟩ := hA.out
    by_cases hlt : k < n
    · have hkl : k < l.length := by rw [← hn.out]; exact hlt
      obtain ⟨b, o, rfl, hc⟩ := ha.out k hkl
      have hc1 : wr.cell? ⟨b, o + k, none⟩ = some (.string (mk l[k])) := (World.cell?_of_block (w := w) (hb.block _ (World.block_lt_of_cell? w _ hc))).trans hc
      obtain ⟨r, hr⟩ : ∃ r, r = l[k] := ⟨_, rfl⟩
      rw [← hr] at hc1
      have hst : stream (l.take (k + 1)) = stream (l.take k) ++ (be 2 r.length ++ r) := by rw [List.take_succ_eq_append_getElem hkl, stream_snoc, hr]
      have hki : (k : Int) < n := by omega
      have hmem : r ∈ l := by rw [hr]; exact List.getElem_mem hkl
      have hbb := Lib.hid hb
      have htk : l.take (k + 1) = l.take k ++ [r] := by rw [hr]; exact List.take_succ_eq_append_getElem hkl
      obtain ⟨T, hT⟩ : ∃ T, T = stream (l.take k) := ⟨_, rfl⟩
      rw [← hT] at hst ⊢
      have hTl : T.length ≤ 1000000 := by rw [hT]; exact Nat.le_trans (stream_take_le l k) hl.out
      replace hst := Lib.hid hst
      replace htk := Lib.hid htk
      replace hok := Lib.hid hok
      clear hA hc hb hr hT
      have hbadR : (r.length = 0 ∨ 65535 < r.length) → recsOkB l = false := fun h => by
        rw [Bool.eq_false_iff]
        intro h2
        have := recsOkB_iff.1 h2 r hmem
        omega
      by_cases h1 : r.length = 0
      · have hB := hbadR (.inl h1)
        have hB2 := bytes_none (.inl hB)
        have he1 : r.isEmpty = true := by rw [List.isEmpty_iff]; exact List.eq_nil_of_length_eq_zero h1
        replace hB := Lib.hid hB
        replace hB2 := Lib.hid hB2
        clear hbadR h1
        go_wp2
        first | (go_quiet (fail); go_wp2) | skip
        go_ret2
        exact ⟨by rw [hB.out, hB2.out]; rfl, hbb.out⟩
      · have he1 : r.isEmpty = false := by
          rw [Bool.eq_false_iff]
          intro h
          rw [List.isEmpty_iff] at h
          exact h1 (by rw [h]; rfl)
        by_cases h2 : 65535 < r.length
        · have hB := hbadR (.inr h2)
          have hB2 := bytes_none (.inl hB)
          have h2i : 65535 < (r.length : Int) := by omega
          replace hB := Lib.hid hB
          replace hB2 := Lib.hid hB2
          clear hbadR h1
          go_wp2
          first | (go_quiet (fail); go_wp2) | skip
          go_ret2
          exact ⟨by rw [hB.out, hB2.out]; rfl, hbb.out⟩
        · have h2i : ¬ 65535 < (r.length : Int) := by omega
          have hok2 : recsOk (l.take (k + 1)) := by
            rw [htk.out]
            intro x hx
            rcases List.mem_append.1 hx with hx | hx
            · exact hok.out x hx
            · rw [List.mem_singleton.1 hx]; omega
          have hcat : ¬ 9223372036854775807 < T.length + (2 + r.length) := by omega
          replace hok2 := Lib.hid hok2
          clear hbadR
          go_wp2_with fail
          first | (go_quiet (fail); go_wp2_with fail) | skip
          refine (rtext_any r _ (by omega)).mono ?_
          rintro e w2 ⟨rfl, hb2⟩
          have hbb2 := Lib.hid (hbb.out.trans (hb2.mono hbb.out.size))
          have hl2 : (be 2 r.length ++ r).length = 2 + r.length := by rw [List.length_append, be_length]
          clear hb2
          go_wp2
          go_roundw
          case rel => exact ⟨k + 1, hlt, by go_num, by rw [hst.out], hok2.out, hbb2.out⟩
          case measure => simp [intOf]; omega
    · obtain rfl : k = n := by omega
      rw [hn.out, List.take_length] at hok
      have hB : recsOkB l = true := recsOkB_iff.2 hok
      have hS : stream (l.take k) = bytesOf l := by rw [hn.out, List.take_length, bytesOf_ok hok]
      have hE : (!l.isEmpty) = decide (0 < k) := by
        rw [hn.out]
        cases l with
        | nil => rfl
        | cons _ _ => simp
      rw [hS]
      replace hb := Lib.hid hb
      replace hB := Lib.hid hB
      replace hE := Lib.hid hE
      clear hA hok hS
      go_wp2
      go_ret2
      exact ⟨by rw [hB.out, hE.out]; simp, hb.out⟩
set_option maxRecDepth 100000 in
theorem rcount_any (a : Option Addr) (c : Nat) (l : List (List UInt8)) (w : World) (hl : (stream l).length ≤ 1000000) (ha : TAt w a l) :
    Calls Tryz.prog 18 #[.slice a l.length c] w fun e w' => e = .returned (.int .i64 (((bytesOf l).length + 55) / 56 : Nat)) ∧ Below w.heap.size w w' := by
  have hle : (bytesOf l).length ≤ 1000000 := by
    unfold bytesOf
    split
    · exact hl
    · simp
  have hz : recsOkB l = false ∨ l = [] → bytesOf l = [] := bytes_none
  go_enter Tryz.func18, Tryz.ntmps18
  go_wp2_with fail
  refine (rstream_any a c l _ hl ha).mono ?_
  rintro e w1 ⟨rfl, hb⟩
  by_cases h : recsOkB l = true ∧ l ≠ []
  · have h1 : (recsOkB l && !l.isEmpty) = true := by rw [h.1]; simp [h.2]
    rw [h1]
    obtain ⟨n, hn⟩ : ∃ n, n = (bytesOf l).length := ⟨_, rfl⟩
    have hms : (mk (bytesOf l)).size = n := by rw [mk_size, hn]
    rw [← hn] at hle
    replace hn := Lib.hid hn
    clear h1 hz
    go_wp2
    go_ret
    exact ⟨ret_int (by rw [← hn.out]; omega), hb⟩
  · have h1 : (recsOkB l && !l.isEmpty) = false := by
      rw [Bool.eq_false_iff]
      intro h2
      rw [Bool.and_eq_true] at h2
      exact h ⟨h2.1, fun e => by rw [e] at h2; simp at h2⟩
    have h0 : bytesOf l = [] := hz (by
      by_cases h3 : recsOkB l = true
      · exact .inr (Classical.byContradiction fun h4 => h ⟨h3, h4⟩)
      · exact .inl (Bool.eq_false_iff.2 h3))
    rw [h1, h0]
    clear h1 hz
    go_wp2
    go_ret
    exact ⟨by rw [h0]; rfl, hb⟩
end Go.Proofs.YtaecfgakgpndaaaGreat
