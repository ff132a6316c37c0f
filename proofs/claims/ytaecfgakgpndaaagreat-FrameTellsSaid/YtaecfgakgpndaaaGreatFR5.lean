/- Records as sectors, by the document. No condition. -/
import Derived.Test.YtaecfgakgpndaaaGreatFR4
import Derived.Test.YtaecfgakgpndaaaGreatBkT
namespace Go.Proofs.YtaecfgakgpndaaaGreat
open Go.RowKit
attribute [local go_sem] mk_size mk_append

theorem sput_int (e i : Int) (f : Bool) (p : List UInt8) (w : World) (hp : p.length ≤ 140737488351232) :
    Calls Tryz.prog 7 #[.agg #[.int .i64 e, .int .i64 i, .bool f, .string (mk p)]] w fun en w' => en = .returned (.tuple #[.string (if secOk e i p then mk (enc e.toNat i.toNat f p) else ByteArray.empty), .bool (secOk e i p)]) ∧ Below w.heap.size w w' := by
  by_cases h : secOk e i p = true
  · obtain ⟨h1, h2, h3, h4, _⟩ := secOk_iff.1 h
    obtain ⟨e', rfl⟩ := Int.eq_ofNat_of_zero_le (show 0 ≤ e by omega)
    obtain ⟨i', rfl⟩ := Int.eq_ofNat_of_zero_le h3
    refine (sput_yes e' i' f p w h).mono fun en w' ⟨he, hb⟩ => ⟨?_, hb⟩
    rw [he, h, if_pos rfl, Int.toNat_natCast, Int.toNat_natCast]
  · have hf : secOk e i p = false := Bool.eq_false_iff.2 h
    refine (sput_no e i f p w hp hf).mono fun en w' ⟨he, hb⟩ => ⟨?_, hb⟩
    rw [he, hf]
    rfl
/-- The chunks before the j-th may be. -/
def Upto (e i : Int) (S : List UInt8) (j : Nat) : Prop := ∀ q, q < j → secOk e (i + q) ((S.drop (56 * q)).take 56) = true
theorem upto_all {e i : Int} {L : List (List UInt8)} (hok : recsOk L) (hne : L ≠ []) {j : Nat} (h : Upto e i (stream L) j) (hj : cnt L ≤ j) : batOk e i L = true := by
  have hc := cnt_pos hne
  have h0 := secOk_iff.1 (h 0 (by omega))
  have h1 := secOk_iff.1 (h (cnt L - 1) (by omega))
  refine batOk_iff.2 ⟨hok, hne, h0.1, h0.2.1, ?_, ?_⟩
  · have := h0.2.2.1
    simpa using this
  · have := h1.2.2.2.1
    omega
theorem upto_no {e i : Int} {L : List (List UInt8)} {j : Nat} (hj : 56 * j < (stream L).length) (h : secOk e (i + j) (((stream L).drop (56 * j)).take 56) = false) : batOk e i L = false := by
  rw [Bool.eq_false_iff]
  intro hb
  obtain ⟨_, _, h3, h4, h5, h6⟩ := batOk_iff.1 hb
  rw [Bool.eq_false_iff] at h
  refine h (secOk_iff.2 ⟨h3, h4, by omega, ?_, ?_, ?_⟩)
  · unfold cnt at h6; omega
  · rw [List.length_take, List.length_drop]; omega
  · rw [List.length_take]; omega

set_option maxRecDepth 100000 in
set_option maxHeartbeats 3200000 in
theorem rbatch_all (e i : Int) (a : Option Addr) (c : Nat) (l : List (List UInt8)) (w : World) (hi1 : -9223372036854775808 ≤ i) (hi2 : i ≤ 9223372036854775807) (hl : (stream l).length ≤ 1000000) (ha : TAt w a l) :
    Calls Tryz.prog 12 #[.int .i64 e, .int .i64 i, .slice a l.length c] w fun en w' => ∃ v, en = .returned (.tuple #[v, .bool (batOk e i l)]) ∧ w'.ownsRow w.heap.size 9 1 v (batD e i l).length (scells (batD e i l)) ∧ Below w.heap.size w w' := by
  obtain ⟨ii, hii, hz0, hz1, hz2⟩ := info_parts Tryz.infoStr
  have none_ : batOk e i l = false → ∀ w' : World, Below w.heap.size w w' → ∃ v : Value, Ending.returned (.tuple #[.slice none 0 0, .bool false]) = .returned (.tuple #[v, .bool (batOk e i l)]) ∧ w'.ownsRow w.heap.size 9 1 v (batD e i l).length (scells (batD e i l)) ∧ Below w.heap.size w w' := fun h w' hb => by
    have hD : batD e i l = [] := by simp [batD, h]
    exact ⟨_, by rw [h], by rw [hD]; exact World.ownsRow_nil _ _ _ _, hb⟩
  replace none_ := Lib.hid none_
  go_enter Tryz.func12, Tryz.ntmps12
  go_wp2_with fail
  refine (rstream_any a c l _ hl ha).mono ?_
  rintro en w1 ⟨rfl, hb1⟩
  by_cases hgood : recsOkB l = true ∧ l ≠ []
  case neg =>
    have h1 : (recsOkB l && !l.isEmpty) = false := by
      rw [Bool.eq_false_iff]
      intro h2
      rw [Bool.and_eq_true] at h2
      exact hgood ⟨h2.1, fun e => by rw [e] at h2; simp at h2⟩
    have hbo : batOk e i l = false := by
      rw [Bool.eq_false_iff]
      intro hb
      obtain ⟨h3, h4, _⟩ := batOk_iff.1 hb
      exact hgood ⟨recsOkB_iff.2 h3, h4⟩
    rw [h1]
    have hfin := Lib.hid (none_.out hbo w1 hb1)
    clear h1 hbo hgood
    go_wp2
    go_ret2
    exact hfin.out
  case pos =>
    have h1 : (recsOkB l && !l.isEmpty) = true := by rw [hgood.1]; simp [hgood.2]
    have hok := recsOkB_iff.1 hgood.1
    rw [h1, bytesOf_ok hok]
    obtain ⟨S, hS⟩ : ∃ S, S = stream l := ⟨_, rfl⟩
    have hSl : S.length ≤ 1000000 := by rw [hS]; exact hl
    have hne := hgood.2
    rw [← hS]
    replace hb1 := Lib.hid hb1
    replace hok := Lib.hid hok
    replace hne := Lib.hid hne
    have hS0 : 0 < S.length := by rw [hS]; exact List.length_pos_iff.2 (stream_ne hgood.2)
    have hSd := Lib.hid hS
    clear h1 hgood ha hS
    go_wp2
    go_loopw [10, 11, 12, 13] (fun v x _ _ wr => ∃ j : Nat, 56 * j < S.length + 56 ∧ x = .int .i64 ((56 * j : Nat) : Int) ∧ Aside (Upto e i S j ∧ wr.ownsRow w.heap.size 9 1 v ((secs e.toNat i.toNat true S).take j).length (scells ((secs e.toNat i.toNat true S).take j)) ∧ Below w.heap.size w wr)) (fun _ x _ _ _ => S.length + 56 - (intOf x).toNat)
    case atStart => exact ⟨0, by omega, rfl, fun q hq => by omega, World.ownsRow_nil _ _ _ _, hb1.out⟩
    case round =>
      obtain ⟨j, hj, rfl, hA⟩ := hrel
      obtain ⟨hU, ho, hb⟩ := hA.out
      replace ho := Lib.hid ho
      replace hb := Lib.hid hb
      by_cases hlt : 56 * j < S.length
      · have hkl : ((56 * j : Nat) : Int) < S.length := by omega
        obtain ⟨p, hp⟩ : ∃ p, p = (S.drop (56 * j)).take 56 := ⟨_, rfl⟩
        obtain ⟨m, hm⟩ : ∃ m, m = min (56 * j + 56) S.length := ⟨_, rfl⟩
        have hx : (mk S).extract (56 * j) m = mk p := by
          rw [mk_ext, hp, hm]
          congr 1
          by_cases c : 56 * j + 56 ≤ S.length
          · rw [Nat.min_eq_left c, Nat.add_sub_cancel_left]
          · rw [Nat.min_eq_right (by omega), List.take_of_length_le (by rw [List.length_drop]; exact Nat.le_refl _), List.take_of_length_le (by rw [List.length_drop]; omega)]
        have hmin : min ((56 * j : Nat) + 56 : Int) (S.length : Int) = (m : Int) := by omega
        have hmin2 : min (56 * (j : Int) + 56) (S.length : Int) = (m : Int) := by omega
        have hm1 : 56 * j ≤ m := by omega
        have hm2 : m ≤ S.length := by omega
        have hpl : p.length ≤ 56 := by rw [hp, List.length_take]; omega
        have hij : -9223372036854775808 ≤ i + j ∧ i + j ≤ 9223372036854775807 := by
          rcases Nat.eq_zero_or_pos j with h0 | h0
          · subst h0; omega
          · have h00 := secOk_iff.1 (hU 0 h0)
            omega
        have hquo : (56 * (j : Int)) / 56 = j := by omega
        have hk0 : ((56 * (j : Int)) == 0) = decide (j = 0) := by
          rw [Bool.eq_iff_iff, beq_iff_eq, decide_eq_true_eq]; omega
        have hijw : IntKind.i64.wrap (i + j) = i + j := IntWalk.i64_in _ (by omega)
        have hbu : ∀ (x1 x2 : Int) (x3 : Bool) (x4 : ByteArray) (w : World), (Instr.build 30 #[(0, .int .i64 x1), (1, .int .i64 x2), (2, .bool x3), (3, .string x4)]).run Tryz.prog w = .ok (.agg #[.int .i64 x1, .int .i64 x2, .bool x3, .string x4]) w := fun x1 x2 x3 x4 w => run_build w 30 _ _ (by kernel_rfl)
        have hsl : ∀ w, (Instr.slice 9 (.string (mk S)) (some (.int .i64 (56 * (j : Int)))) (some (.int .i64 (m : Int))) none).run Tryz.prog w = .ok (.string (mk p)) w := fun w => by
          rw [run_slice_string w 9 (mk S) .i64 .i64 (56 * (j : Int)) (m : Int) Tryz.underlying9 (by omega) (by omega) (by rw [mk_size]; omega), show (56 * (j : Int)).toNat = 56 * j by omega, show ((m : Int)).toNat = m by omega, hx]
        have hgr : batOk e i l = false ∨ secOk e (i + j) p = true := by
          by_cases h : secOk e (i + j) p = true
          · exact .inr h
          · exact .inl (upto_no (j := j) (by rw [← hSd.out]; exact hlt) (by rw [← hSd.out, ← hp]; exact Bool.eq_false_iff.2 h))
        replace hm := Lib.hid hm
        replace hp := Lib.hid hp
        replace hU := Lib.hid hU
        replace hgr := Lib.hid hgr
        clear hA hx
        go_wp2_with fail
        refine (sput_int e (i + j) _ p _ (by omega)).mono ?_
        rintro en w2 ⟨rfl, hb2⟩
        have ho2 := Lib.hid ((Chg.of_below (S := fun _ => False) hb2).row ho.out (fun _ _ => id))
        have hbb2 := Lib.hid (hb.out.trans (hb2.mono hb.out.size))
        clear hb2 ho hb
        by_cases hs : secOk e (i + j) p = true
        · have hU2 : Upto e i S (j + 1) := fun q hq => by
            rcases Nat.lt_or_ge q j with h | h
            · exact hU.out q h
            · obtain rfl : q = j := by omega
              rw [← hp.out]; exact hs
          have hN : (i + j).toNat = i.toNat + j := by
            have h00 := secOk_iff.1 (hU2 0 (by omega))
            omega
          have hsn : (secs e.toNat i.toNat true S).take (j + 1) = (secs e.toNat i.toNat true S).take j ++ [enc e.toNat (i.toNat + j) (decide (j = 0)) p] := by
            have hlt' : j < (secs e.toNat i.toNat true S).length := by rw [secs_len]; omega
            rw [List.take_succ_eq_append_getElem hlt', secs_get, hp.out]
            simp
          rw [hs, if_pos rfl, hN]
          have hln : ((secs e.toNat i.toNat true S).take j).length ≤ 1000000 := by rw [List.length_take, secs_len]; omega
          obtain ⟨ec, hec⟩ : ∃ ec, ec = enc e.toNat (i.toNat + j) (decide (j = 0)) p := ⟨_, rfl⟩
          rw [← hec] at hsn ⊢
          replace hsn := Lib.hid hsn
          replace hU2 := Lib.hid hU2
          replace hs := Lib.hid hs
          clear hec hN
          go_wp2_with (at_builtin; refine wpList_append_rd rfl _ _ 24 rfl w.heap.size 9 ii (.string ByteArray.empty) 1 16 Tryz.underlying24 hii hz0 hz1 hz2 rfl (by decide) _ _ _ rfl (ho2.out.alloc _) _ 1 [.string (mk ec)] rfl rfl (by go_simp; exact RdAt.new1T _ rfl) (by intro u hu; rw [List.mem_singleton.1 hu]; rfl) (by unfold maxLen; omega) (by omega) (by have := hbb2.out.size; simp; omega) ?_; intro v5 w5 hp5; have hb5 := Lib.hid (grow_ownT ho2.out hbb2.out hp5); have ho5 := Lib.hid hp5.1; clear hp5)
          go_roundw
          case rel =>
            refine ⟨j + 1, by omega, by go_num, hU2.out, ?_, hb5.out⟩
            rw [hsn.out, scells_append, List.length_append]
            exact ho5.out
          case measure => simp [intOf]; omega
        · have hs0 : secOk e (i + j) p = false := Bool.eq_false_iff.2 hs
          have hbo := hgr.out.resolve_right hs
          have hfin := Lib.hid (none_.out hbo w2 hbb2.out)
          rw [hs0]
          clear hbo hs hs0 hgr
          go_wp2
          go_ret2
          exact hfin.out
      · have hkl : ¬ ((56 * j : Nat) : Int) < S.length := by omega
        have hlen : (secs e.toNat i.toNat true S).length = (S.length + 55) / 56 := secs_len _ _ _ _
        have hbo : batOk e i l = true := upto_all hok.out hne.out (by rw [← hSd.out]; exact hU) (by unfold cnt; rw [← hSd.out]; omega)
        have hD : (secs e.toNat i.toNat true S).take j = batD e i l := by rw [List.take_of_length_le (by omega), batD, if_pos hbo, hSd.out]
        have hfin : wr.ownsRow w.heap.size 9 1 _ _ _ := ho.out
        rw [hD] at hfin
        replace hfin := Lib.hid hfin
        replace hbo := Lib.hid hbo
        clear ho hD hlen
        go_wp2
        go_ret2
        exact ⟨_, by rw [hbo.out]; rfl, hfin.out, hb.out⟩
end Go.Proofs.YtaecfgakgpndaaaGreat
