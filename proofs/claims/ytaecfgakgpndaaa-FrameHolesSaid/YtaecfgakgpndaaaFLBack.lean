/- The walk of the law FrameBack. No condition. -/
import Derived.Test.YtaecfgakgpndaaaFLBackP
import Derived.Test.YtaecfgakgpndaaaFOpen2
namespace Go.Proofs.Ytaecfgakgpndaaa
open Go.RowKit
attribute [local go_sem] mk_size mk_append

theorem cell_more {w w' : World} {a : Addr} {v : Value} (hb : Below w.heap.size w w') (h : w.cell? a = some v) : w'.cell? a = some v :=
  (World.cell?_of_block (w := w) (hb.block _ (World.block_lt_of_cell? w _ h))).trans h
theorem TAt.news {w : World} {b o : Nat} {l : List (List UInt8)} (h : TAt w (some ⟨b, o, none⟩) l) : ∀ j u, (scells l)[j]? = some u → w.cell? (Addr.add ⟨b, o, none⟩ j) = some u := by
  intro j u hj
  have hj' : j < l.length := by have := (List.getElem?_eq_some_iff.1 hj).1; simpa [scells] using this
  obtain ⟨b', o', e, hc⟩ := h j hj'
  cases e
  rw [Addr.add_lit, hc]
  simpa [scells, List.getElem?_eq_getElem hj'] using hj
theorem scells_one (l : List (List UInt8)) : ∀ u ∈ scells l, u.oneCell' = true := by
  intro u hu
  obtain ⟨x, _, rfl⟩ := List.mem_map.1 hu
  rfl
theorem batch_yes2 (e i : Nat) (x y : Int) (a : Option Addr) (c : Nat) (l : List (List UInt8)) (w : World) (hx : x = e) (hy : y = i) (hl : (stream l).length ≤ 1000000) (ha : TAt w a l) (hok : recsOk l) (hne : l ≠ []) (he : 1 ≤ e) (he' : e ≤ 4294967295) (hi : i + cnt l ≤ 65536) :
    Calls Try.prog 13 #[.int .i64 x, .int .i64 y, .slice a l.length c] w fun en w' => ∃ v, en = .returned (.tuple #[v, .bool true]) ∧ w'.ownsRow w.heap.size 9 1 v (secs e i true (stream l)).length (scells (secs e i true (stream l))) ∧ Below w.heap.size w w' := by
  subst hx
  subst hy
  exact batch_yes e i a c l w hl ha hok hne he he' hi
theorem few_len {l : List (List UInt8)} (h : fewB l = true) : l.length ≤ 20 ∧ (stream l).length ≤ 1540 ∧ cnt l ≤ 28 := by
  have h1 := fewB_iff.1 h
  have h2 := stream_tot l
  refine ⟨h1.1, by omega, ?_⟩
  rw [cnt]
  omega
theorem few_ok {l : List (List UInt8)} (h : fewB l = true) (h0 : ∀ r ∈ l, r ≠ []) : recsOk l := fun r hr => by
  have h1 := fewB_iff.1 h
  have h2 := tot_mem hr
  have h3 := List.length_pos_iff.2 (h0 r hr)
  omega

set_option maxRecDepth 100000 in
set_option maxHeartbeats 1600000 in
theorem frameBack_walk (v : Value) (L : List (List (List UInt8))) (u : Value) (es : List Int) (w : World) (hv : IsTextss w v L) (hu : IsInts w u es) :
    Calls Try.prog 3 #[v, u] w fun e w' => e = .returned (.bool true) ∧ Below w.heap.size w w' := by
  obtain ⟨a, c, rfl, hLl, hL⟩ := hv
  obtain ⟨a2, c2, rfl, hel, hE⟩ := hu
  by_cases d1 : 8 < (L.length : Int)
  · go_enter Try.func3, Try.ntmps3
    go_wp2_with fail
    refine (alive_true _).mono ?_
    rintro e w2 ⟨rfl, h2⟩
    go_wp2
    go_ret
    exact ⟨rfl, h2⟩
  by_cases d2 : (es.length : Int) < L.length
  · go_enter Try.func3, Try.ntmps3
    go_wp2_with fail
    refine (alive_true _).mono ?_
    rintro e w2 ⟨rfl, h2⟩
    go_wp2
    go_ret
    exact ⟨rfl, h2⟩
  obtain ⟨ii, hi0, hz0, hz1, hz2⟩ := info_parts Try.infoStr
  have hL8 : L.length ≤ 8 := by omega
  have hEL : L.length ≤ es.length := by omega
  replace hL := Lib.hid hL
  replace hE := Lib.hid hE
  go_enter Try.func3, Try.ntmps3
  go_wp2_with fail
  refine (alive_true _).mono ?_
  rintro e w2 ⟨rfl, h2⟩
  replace h2 := Lib.hid h2
  go_wp2
  go_loopw [33, 5, 6, 7] (fun i va vw ev wr => ∃ (k E : Nat) (all want : List (List UInt8)), k ≤ L.length ∧ i = .int .i64 k ∧ ev = .int .i64 E ∧ Hid (Bk all want E ∧ Two w wr va all vw want) ∧ all.length ≤ 28 * k ∧ want.length ≤ 20 * k ∧ 1 ≤ E ∧ E ≤ 1 + 3 * k) (fun i _ _ _ _ => L.length - (intOf i).toNat)
  case atStart => exact ⟨0, 1, [], [], Nat.zero_le _, rfl, rfl, Lib.hid ⟨Bk.start, (Two.start w).more h2.out⟩, by simp, by simp, Nat.le_refl _, by omega⟩
  case round =>
    obtain ⟨k, E, all, want, hk, rfl, rfl, hT, ha, hw, hE1, hE2⟩ := hrel
    obtain ⟨a5, c5, rfl, ht5⟩ := TAt.own hT.out.2.1
    obtain ⟨a6, c6, rfl, ht6⟩ := TAt.own hT.out.2.2.1
    clear ht5 ht6
    by_cases hlt : k < L.length
    · obtain ⟨b1, o1, z1, rfl, hc1, hz1t⟩ := hL.out k hlt
      obtain ⟨b2, o2, rfl, hc2, hwf⟩ := hE.out k (by omega)
      obtain ⟨l, hl⟩ : ∃ l, l = L[k] := ⟨_, rfl⟩
      rw [← hl] at hz1t
      obtain ⟨a3, c3, rfl, ht3, hl3, hlz⟩ := hz1t
      obtain ⟨z, hz⟩ : ∃ z, z = es[k] := ⟨_, rfl⟩
      rw [← hz] at hc2
      obtain ⟨n, hn, hn3⟩ : ∃ n : Nat, bits .and .i64 z 3 = n ∧ n ≤ 3 := by
        have := bits_and3 z
        obtain ⟨n, hn⟩ := Int.eq_ofNat_of_zero_le this.1
        exact ⟨n, hn, by omega⟩
      have hbw := hT.out.2.2.2.2
      have g1 := cell_more hbw hc1
      have g2 := cell_more hbw hc2
      have t3 := Lib.hid (ht3.more hbw)
      replace hl := Lib.hid hl
      replace hz := Lib.hid hz
      have hki : (k : Int) < es.length := by omega
      clear hwf hc2 hbw
      replace hc1 := Lib.hid hc1
      replace ht3 := Lib.hid ht3
      cases hf : fewB l with
      | false =>
        go_wp2_with fail
        refine (few_any a3 c3 l _ t3.out hl3 hlz).mono ?_
        rintro e w4 ⟨rfl, rfl⟩
        rw [hf]
        go_wp2
        go_ret
        exact ⟨rfl, hT.out.2.2.2.2⟩
      | true =>
        obtain ⟨f1, f2, f3⟩ := few_len hf
        by_cases c3' : bytesOf l = []
        · go_wp2_with fail
          refine (few_any a3 c3 l _ t3.out hl3 hlz).mono ?_
          rintro e w4 ⟨rfl, rfl⟩
          rw [hf]
          go_wp2_with fail
          refine (batch_none _ _ a3 c3 l _ (by omega) t3.out c3').mono ?_
          rintro e w5 ⟨rfl, h5⟩
          have t5 := Lib.hid (t3.out.more h5)
          have g15 := cell_more h5 g1
          have b5 := Lib.hid (hT.out.2.2.2.2.trans (h5.mono hT.out.2.2.2.2.size))
          clear h5 g1 g2 t3
          replace c3' := Lib.hid c3'
          go_wp2
          go_loop [67] (fun j => ∃ m : Nat, m ≤ l.length ∧ j = .int .i64 m ∧ Hid (∀ r ∈ l.take m, r ≠ [])) (fun j => l.length - (intOf j).toNat)
          case atStart => exact ⟨0, Nat.zero_le _, rfl, Lib.hid (by simp)⟩
          case round =>
            obtain ⟨m, hm, rfl, hne⟩ := hrel
            by_cases hlt2 : m < l.length
            · obtain ⟨b7, o7, rfl, g7⟩ := t5.out m hlt2
              have htk : l.take (m + 1) = l.take m ++ [l[m]] := List.take_succ_eq_append_getElem hlt2
              obtain ⟨y, hy⟩ : ∃ y, y = l[m] := ⟨_, rfl⟩
              rw [← hy] at g7 htk
              replace hy := Lib.hid hy
              replace htk := Lib.hid htk
              cases y with
              | nil =>
                go_wp2
                go_ret
                exact ⟨rfl, b5.out⟩
              | cons y0 ys =>
                go_wp2
                go_round
                case rel => exact ⟨m + 1, hlt2, by go_num, Lib.hid (by rw [htk.out]; intro r hr; rcases List.mem_append.1 hr with h | h; exact hne.out r h; rw [List.mem_singleton.1 h]; simp)⟩
                case measure => simp [intOf]; omega
            · obtain rfl : m = l.length := by omega
              have hl0 : l = [] := by
                have h0 := hne.out
                rw [List.take_length] at h0
                have := bytesOf_ok (few_ok hf h0)
                rw [c3'.out] at this
                by_cases e : l = []
                · exact e
                · exact absurd this.symm (stream_ne e)
              subst hl0
              go_wp2
              go_ret
              exact ⟨rfl, b5.out⟩
        · have hok : recsOk l := by by_cases h : recsOk l; exact h; exact absurd (bytesOf_bad h) c3'
          have hne : l ≠ [] := by intro h; subst h; exact c3' (by decide)
          have hcb := bytesOf_ok hok
          have hsl : (secs (E + n) all.length true (stream l)).length = cnt l := secs_len _ _ _ _
          obtain ⟨q, hq⟩ : ∃ q, q = secs (E + n) all.length true (stream l) := ⟨_, rfl⟩
          have hBk := hT.out.1.step hok hne (e' := E + n) (by omega) (by omega) (by omega) (by omega)
          rw [← hq] at hBk hsl
          have hpos : 0 < l.length := List.length_pos_iff.2 hne
          obtain ⟨b3, o3, rfl, _⟩ := ht3.out 0 hpos
          have hqn : q ≠ [] := by
            intro h
            rw [h] at hsl
            have := List.length_pos_iff.2 (stream_ne hne)
            rw [cnt] at hsl
            simp at hsl
            omega
          have hqpos := List.length_pos_iff.2 hqn
          have hcnt : cnt l = ((stream l).length + 55) / 56 := rfl
          replace hBk := Lib.hid hBk
          replace hcnt := Lib.hid hcnt
          replace hq := Lib.hid hq
          replace hcb := Lib.hid hcb
          replace hsl := Lib.hid hsl
          replace hqn := Lib.hid hqn
          clear c3'
          go_wp2_with fail
          refine (few_any _ c3 l _ t3.out hl3 hlz).mono ?_
          rintro e w4 ⟨rfl, rfl⟩
          rw [hf]
          go_wp2_with fail
          refine (batch_yes2 (E + n) all.length _ _ _ c3 l _ (by simp) rfl (by omega) t3.out hok hne (by omega) (by omega) (by omega)).mono ?_
          rintro e w5 ⟨v5, rfl, ho5, h5⟩
          rw [← hq.out] at ho5
          obtain ⟨a7, c7, rfl, t7⟩ := TAt.own ho5
          have T5 := Lib.hid (hT.out.2.more h5)
          have t5 := Lib.hid (t3.out.more h5)
          have g15 := cell_more h5 g1
          clear h5 g1 g2 t3 ho5
          obtain ⟨b7, o7, rfl, _⟩ := t7 0 hqpos
          replace t7 := Lib.hid t7
          go_wp2_with fail
          refine (count_any _ c3 l _ (by omega) t5.out).mono ?_
          rintro e w6 ⟨rfl, h6⟩
          rw [hcb.out, ← hcnt.out, ← hsl.out]
          have T6 := Lib.hid (T5.out.more h6)
          have t6 := Lib.hid (t5.out.more h6)
          have t76 := Lib.hid (t7.out.more h6)
          have g16 := cell_more h6 g15
          have hb6 := T6.out.2.2.2.size
          clear h6 g15 t5 T5 t7
          have hql : q.length ≤ 28 := by rw [hsl.out]; omega
          go_wp2_with (first | (at_builtin; refine wpList_append_own' rfl (.tmp 88) (.tmp 89) 25 rfl w.heap.size 9 ii (.string ByteArray.empty) 1 16 Try.underlying25 hi0 hz0 hz1 hz2 rfl (by decide) _ _ _ rfl T6.out.1 ⟨b7, o7, none⟩ q.length c7 (scells q) rfl (by simp [scells]) t76.out.news (scells_one q) (by unfold maxLen; omega) (by omega) hb6 ?_; intro va w7 hown' hgrow hrow; have T7 := Lib.hid (T6.out.grow hown' rfl hgrow hrow); clear hown' hgrow hrow T6; have g17 := cell_more T7.out.2.2.2 hc1.out; have t37 := Lib.hid (ht3.out.more T7.out.2.2.2); have hb7 := T7.out.2.2.2.size) | (at_builtin; refine wpList_append_own' rfl (.tmp 91) (.tmp 95) 25 rfl w.heap.size 9 ii (.string ByteArray.empty) 1 16 Try.underlying25 hi0 hz0 hz1 hz2 rfl (by decide) _ _ _ rfl T7.out.swap.1 ⟨b3, o3, none⟩ l.length c3 (scells l) rfl (by simp [scells]) t37.out.news (scells_one l) (by unfold maxLen; omega) (by omega) hb7 ?_; intro vw w8 hown' hgrow hrow; have T8 := Lib.hid (T7.out.swap.grow hown' rfl hgrow hrow).swap; clear hown' hgrow hrow T7 g17))
          go_roundw
          case rel => exact ⟨k + 1, E + n, all ++ q, want ++ l, hlt, by go_num, by go_num, Lib.hid ⟨hBk.out, T8.out⟩, by rw [List.length_append]; omega, by rw [List.length_append]; omega, by omega, by omega⟩
          case measure => simp [intOf]; omega
    · obtain rfl : k = L.length := by omega
      obtain ⟨B, T⟩ := hT.out
      have t := T.1
      obtain ⟨a7, c7, e7, t7⟩ := TAt.own T.1
      injection e7 with e1 e2 e3
      subst e1 e3
      obtain ⟨a8, c8, e8, t8⟩ := TAt.own T.2.1
      injection e8 with e1 e2 e3
      subst e1 e3
      obtain ⟨q1, q2, q3, q4⟩ := B.done
      obtain ⟨r, hr⟩ : ∃ r, scan st0 all = r := ⟨_, rfl⟩
      rw [hr] at q1 q2 q3
      have hall : ∀ x ∈ all, x.length ≤ 140737488351232 := by obtain ⟨_, _, _, _, _, _, _, _, h⟩ := B; exact h
      go_wp2_with fail
      refine (scan_any _ _ all r _ (by omega) hall t7 hr).mono ?_
      rintro e w9 ⟨v9, rfl, ho9, h9⟩
      rw [q1] at ho9
      obtain ⟨a9, c9, rfl, t9⟩ := TAt.own ho9
      have t8' := t8.more h9
      have b9 := Lib.hid (T.2.2.2.trans (h9.mono T.2.2.2.size))
      rw [q2, q3]
      clear h9 ho9 T t t7 t8 B hT
      by_cases hw0 : want = []
      · have ha0 := q4 hw0
        subst hw0
        subst ha0
        rw [if_pos rfl]
        go_wp2
        go_ret
        exact ⟨rfl, b9.out⟩
      · rw [if_neg hw0]
        have hwl : ((want.length : Int) == 0) = false := by
          have := List.length_pos_iff.2 hw0
          rw [beq_eq_false_iff_ne]; omega
        replace hw0 := Lib.hid hw0
        clear q4
        go_wp2_with fail
        refine (same_yes a9 a6 c9 c6 want _ t9 t8' (by omega)).mono ?_
        rintro e w10 ⟨rfl, h10⟩
        go_wp2
        go_ret
        exact ⟨rfl, b9.out.trans (h10.mono b9.out.size)⟩
end Go.Proofs.Ytaecfgakgpndaaa
