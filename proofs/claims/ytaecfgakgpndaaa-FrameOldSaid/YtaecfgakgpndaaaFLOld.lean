/- The walk of the law FrameOld. No condition. -/
import Derived.Test.YtaecfgakgpndaaaFLCuts
namespace Go.Proofs.Ytaecfgakgpndaaa
open Go.RowKit
attribute [local go_sem] mk_size mk_append

theorem TAt.news {w : World} {b o : Nat} {l : List (List UInt8)} (h : TAt w (some ⟨b, o, none⟩) l) : ∀ j u, (scells l)[j]? = some u → w.cell? ((⟨b, o, none⟩ : Addr).add j) = some u := fun j u hu => by
  have hj : j < l.length := by have := (List.getElem?_eq_some_iff.1 hu).1; rwa [scells_length] at this
  obtain ⟨b', o', e, hc⟩ := h j hj
  cases e
  rw [Addr.add_lit, hc]
  simp [scells, hj] at hu
  rw [hu]
theorem scells_one (l : List (List UInt8)) : ∀ u ∈ scells l, u.oneCell' = true := by
  intro u hu
  obtain ⟨_, _, rfl⟩ := List.mem_map.1 hu
  rfl
/-- Sectors of an older epoch behind a batch are not read. -/
theorem scan_old {l old : List (List UInt8)} (hl : recsOk l) (hne : l ≠ []) (hne' : old ≠ []) {a b : Nat} (ha : 1 ≤ b) (hab : b < a) (ha' : a ≤ 4294967295) (hc : cnt l + cnt old ≤ 60000) :
    scan st0 (secs a 0 true (stream l) ++ secs b (cnt l) true (stream old)) = ⟨[], true, cnt l, a, l, cnt l, a⟩ := by
  rw [scan_batch hl hne (by omega) ha' st0 _ (i := 0) (by omega) rfl (by simp [st0]) (by simp [st0])]
  have hS := List.length_pos_iff.2 (stream_ne hne')
  rw [secs_cons (stream_ne hne')]
  refine (scan_none _ (take_enc_none (secOk_iff.2 (by simp only [List.length_take]; omega)) ?_)).trans ?_
  · simp [fits]; omega
  · simp [st0]

set_option maxRecDepth 100000 in
set_option maxHeartbeats 1600000 in
theorem frameOld_walk (v : Value) (l : List (List UInt8)) (v' : Value) (old : List (List UInt8)) (x y : Int) (w : World) (hv : IsTexts w v l) (hv' : IsTexts w v' old) (w1 : (Lit.int .i64 x).wf = true) (w2 : (Lit.int .i64 y).wf = true) :
    Calls Try.prog 6 #[v, v', .int .i64 x, .int .i64 y] w fun e w' => e = .returned (.bool true) ∧ Below w.heap.size w w' := by
  obtain ⟨a, c, rfl, ha, hlen, hz⟩ := hv
  obtain ⟨a', c', rfl, ha', hlen', hz'⟩ := hv'
  cases hf : fewB l with
  | false =>
    go_enter Try.func6, Try.ntmps6
    go_wp2_with fail
    refine (few_any a c l _ ha hlen hz).mono ?_
    rintro e w2 ⟨rfl, rfl⟩
    rw [hf]
    go_wp2_with (go_at_call 11; refine (alive_true _).mono ?_; rintro e w3 ⟨rfl, h3⟩)
    go_ret
    exact ⟨rfl, h3⟩
  | true =>
  cases hf' : fewB old with
  | false =>
    go_enter Try.func6, Try.ntmps6
    go_wp2_with fail
    refine (few_any a c l _ ha hlen hz).mono ?_
    rintro e w2 ⟨rfl, rfl⟩
    rw [hf]
    go_wp2_with fail
    refine (few_any a' c' old _ ha' hlen' hz').mono ?_
    rintro e w2 ⟨rfl, rfl⟩
    rw [hf']
    go_wp2_with (go_at_call 11; refine (alive_true _).mono ?_; rintro e w3 ⟨rfl, h3⟩)
    go_ret
    exact ⟨rfl, h3⟩
  | true =>
  by_cases d1 : x < 1
  · go_enter Try.func6, Try.ntmps6
    go_wp2_with fail
    refine (few_any a c l _ ha hlen hz).mono ?_
    rintro e w2 ⟨rfl, rfl⟩
    rw [hf]
    go_wp2_with fail
    refine (few_any a' c' old _ ha' hlen' hz').mono ?_
    rintro e w2 ⟨rfl, rfl⟩
    rw [hf']
    go_wp2_with (go_at_call 11; refine (alive_true _).mono ?_; rintro e w3 ⟨rfl, h3⟩)
    go_ret
    exact ⟨rfl, h3⟩
  by_cases d2 : 1000 < x
  · go_enter Try.func6, Try.ntmps6
    go_wp2_with fail
    refine (few_any a c l _ ha hlen hz).mono ?_
    rintro e w2 ⟨rfl, rfl⟩
    rw [hf]
    go_wp2_with fail
    refine (few_any a' c' old _ ha' hlen' hz').mono ?_
    rintro e w2 ⟨rfl, rfl⟩
    rw [hf']
    go_wp2_with (go_at_call 11; refine (alive_true _).mono ?_; rintro e w3 ⟨rfl, h3⟩)
    go_ret
    exact ⟨rfl, h3⟩
  by_cases d3 : y < 1
  · go_enter Try.func6, Try.ntmps6
    go_wp2_with fail
    refine (few_any a c l _ ha hlen hz).mono ?_
    rintro e w2 ⟨rfl, rfl⟩
    rw [hf]
    go_wp2_with fail
    refine (few_any a' c' old _ ha' hlen' hz').mono ?_
    rintro e w2 ⟨rfl, rfl⟩
    rw [hf']
    go_wp2_with (go_at_call 11; refine (alive_true _).mono ?_; rintro e w3 ⟨rfl, h3⟩)
    go_ret
    exact ⟨rfl, h3⟩
  by_cases d4 : x ≤ y
  · go_enter Try.func6, Try.ntmps6
    go_wp2_with fail
    refine (few_any a c l _ ha hlen hz).mono ?_
    rintro e w2 ⟨rfl, rfl⟩
    rw [hf]
    go_wp2_with fail
    refine (few_any a' c' old _ ha' hlen' hz').mono ?_
    rintro e w2 ⟨rfl, rfl⟩
    rw [hf']
    go_wp2_with (go_at_call 11; refine (alive_true _).mono ?_; rintro e w3 ⟨rfl, h3⟩)
    go_ret
    exact ⟨rfl, h3⟩
  obtain ⟨x, rfl⟩ := Int.eq_ofNat_of_zero_le (show 0 ≤ x by omega)
  obtain ⟨y, rfl⟩ := Int.eq_ofNat_of_zero_le (show 0 ≤ y by omega)
  have d4' : decide (x ≤ y) = false := by simp; omega
  have hb := few_bounds hf
  have hc := cnt_few hf
  have hb' := few_bounds hf'
  have hc' := cnt_few hf'
  have hcl : (secs x 0 true (stream l)).length = cnt l := secs_len _ _ _ _
  have hcl' : (secs y (cnt l) true (stream old)).length = cnt old := secs_len _ _ _ _
  obtain ⟨M, hM⟩ : ∃ M, M = cnt l := ⟨_, rfl⟩
  obtain ⟨M', hM'⟩ : ∃ M', M' = cnt old := ⟨_, rfl⟩
  replace hcl := Lib.hid hcl
  replace hcl' := Lib.hid hcl'
  rw [← hM] at hc
  rw [← hM'] at hc'
  replace hM := Lib.hid hM
  replace hM' := Lib.hid hM'
  go_enter Try.func6, Try.ntmps6
  go_wp2_with fail
  refine (few_any a c l _ ha hlen hz).mono ?_
  rintro e w2 ⟨rfl, rfl⟩
  rw [hf]
  go_wp2_with fail
  refine (few_any a' c' old _ ha' hlen' hz').mono ?_
  rintro e w2 ⟨rfl, rfl⟩
  rw [hf']
  go_wp2_with fail
  refine (alive_true _).mono ?_
  rintro e w3 ⟨rfl, h3⟩
  have haw := Lib.hid ha
  have ha3 := Lib.hid (ha.more h3)
  have ha3' := Lib.hid (ha'.more h3)
  replace h3 := Lib.hid h3
  clear ha ha'
  by_cases c3 : bytesOf l = []
  · go_wp2_with fail
    refine (batch_none x 0 a c l _ (by omega) ha3.out c3).mono ?_
    rintro e w4 ⟨rfl, h4⟩
    replace h4 := Lib.hid (h3.out.trans (h4.mono h3.out.size))
    go_wp2
    go_ret
    exact ⟨rfl, h4.out⟩
  have hok : recsOk l := by by_cases h : recsOk l; exact h; exact absurd (bytesOf_bad h) c3
  have hne : l ≠ [] := by intro h; subst h; exact c3 (by decide)
  replace c3 := Lib.hid c3
  go_wp2_with fail
  refine (batch_yes x 0 a c l _ (by omega) ha3.out hok hne (by omega) (by omega) (by rw [← hM.out]; omega)).mono ?_
  rintro e w4 ⟨v4, rfl, ho4, h4⟩
  obtain ⟨a4, c4, rfl, ht4, hc4, _⟩ := TAt.own' ho4
  rw [hcl.out, ← hM.out] at hc4 ⊢
  have ha4' := Lib.hid (ha3'.out.more h4)
  have ha4 := Lib.hid (ha3.out.more h4)
  replace h4 := Lib.hid (h3.out.trans (h4.mono h3.out.size))
  clear ho4 ha3 ha3' h3
  replace ht4 := Lib.hid ht4
  by_cases c5 : bytesOf old = []
  · go_wp2_with fail
    refine (batch_none y M a' c' old _ (by omega) ha4'.out c5).mono ?_
    rintro e w5 ⟨rfl, h5⟩
    replace h5 := Lib.hid (h4.out.trans (h5.mono h4.out.size))
    go_wp2
    go_ret
    exact ⟨rfl, h5.out⟩
  have hok' : recsOk old := by by_cases h : recsOk old; exact h; exact absurd (bytesOf_bad h) c5
  have hne' : old ≠ [] := by intro h; subst h; exact c5 (by decide)
  replace c5 := Lib.hid c5
  have hpos : 1 ≤ M := by have := List.length_pos_iff.2 (stream_ne hne); rw [hM.out, cnt]; omega
  have hpos' : 1 ≤ M' := by have := List.length_pos_iff.2 (stream_ne hne'); rw [hM'.out, cnt]; omega
  have hso := scan_old hok hne hne' (a := x) (b := y) (by omega) (by omega) (by omega) (by rw [← hM.out, ← hM'.out]; omega)
  rw [← hM.out] at hso hcl'
  rw [← hM'.out] at hcl'
  replace hso := Lib.hid hso
  go_wp2_with fail
  refine (batch_yes y M a' c' old _ (by omega) ha4'.out hok' hne' (by omega) (by omega) (by rw [← hM'.out]; omega)).mono ?_
  rintro e w5 ⟨v5, rfl, ho5, h5⟩
  obtain ⟨a5, c5', rfl, ht5, hc5, _⟩ := TAt.own' ho5
  rw [hcl'.out] at hc5 ⊢
  have ht4' := Lib.hid (ht4.out.more h5)
  have ha5 := Lib.hid (ha4.out.more h5)
  replace h5 := Lib.hid (h4.out.trans (h5.mono h4.out.size))
  clear ho5 ha4 ha4' h4 ht4
  obtain ⟨q1, r1, rfl, _⟩ := ht4'.out 0 (by rw [hcl.out, ← hM.out]; omega)
  obtain ⟨q2, r2, rfl, _⟩ := ht5 0 (by rw [hcl'.out]; omega)
  replace ht5 := Lib.hid ht5
  obtain ⟨s1, hs1⟩ : ∃ s1, s1 = secs x 0 true (stream l) := ⟨_, rfl⟩
  obtain ⟨s2, hs2⟩ : ∃ s2, s2 = secs y M true (stream old) := ⟨_, rfl⟩
  have hl1 : s1.length = M := by rw [hs1, hcl.out, ← hM.out]
  have hl2 : s2.length = M' := by rw [hs2, hcl'.out]
  have hsz : ∀ b ∈ s1 ++ s2, b.length ≤ 140737488351232 := by
    intro b hb
    rcases List.mem_append.1 hb with h | h
    · rw [hs1] at h; exact sec_size b h
    · rw [hs2] at h; exact sec_size b h
  rw [← hs1] at ht4'
  rw [← hs2] at ht5
  rw [← hs1, ← hs2] at hso
  replace hl1 := Lib.hid hl1
  replace hl2 := Lib.hid hl2
  replace hs1 := Lib.hid hs1
  replace hs2 := Lib.hid hs2
  replace hsz := Lib.hid hsz
  obtain ⟨ii, hi0, hz0, hz1, hz2⟩ := info_parts Try.infoStr
  go_wp2_with (first
    | (at_builtin; refine wpList_append_own' rfl (.const (.slice none 0 0)) (.tmp 65) 25 rfl w.heap.size 9 ii (.string ByteArray.empty) 1 16 Try.underlying25 hi0 hz0 hz1 hz2 rfl (by decide) (.slice none 0 0) 0 [] rfl (World.ownsRow_nil _ _ _ _) ⟨q1, r1, none⟩ M c4 (scells s1) rfl (by rw [scells_length, hl1.out, Nat.mul_one]) ht4'.out.news (scells_one _) (by unfold maxLen; omega) (by omega) h5.out.size ?_; intro v6 w6 hown6 hgrow6 hrow6; have h6 := Lib.hid (h5.out.grown hgrow6 h5.out.size (fun k e => by simp [Value.ownBlock] at e)); have ht6 := Lib.hid (ht5.out.more ((Below.refl _ _).grown hgrow6 (Nat.le_refl _) (fun k e => by simp [Value.ownBlock] at e))); rw [Nat.zero_add, List.nil_append] at hown6; replace hown6 := Lib.hid hown6; clear hgrow6 hrow6)
    | (at_builtin; refine wpList_append_own' rfl (.tmp 66) (.tmp 67) 25 rfl w.heap.size 9 ii (.string ByteArray.empty) 1 16 Try.underlying25 hi0 hz0 hz1 hz2 rfl (by decide) _ _ _ rfl hown6.out ⟨q2, r2, none⟩ M' c5' (scells s2) rfl (by rw [scells_length, hl2.out, Nat.mul_one]) ht6.out.news (scells_one _) (by unfold maxLen; omega) (by omega) h6.out.size ?_; intro v7 w7 hown7 hgrow7 hrow7; have h7 := Lib.hid (h6.out.grown hgrow7 h6.out.size (fun k e => (hown6.out.lt k e).1)); rw [← scells_append] at hown7; replace hown7 := Lib.hid hown7; clear hgrow7 hrow7))
  obtain ⟨a7, c7, hv7, ht7, hc7, _⟩ := TAt.own' hown7.out
  subst hv7
  have hll : (s1 ++ s2).length = M + M' := by rw [List.length_append, hl1.out, hl2.out]
  refine (scan_n a7 _ c7 (s1 ++ s2) _ _ rfl (by rw [hll]; omega) hsz.out ht7 hso.out).mono ?_
  rintro e w8 ⟨v8, rfl, ho8, h8⟩
  obtain ⟨a8, c8, rfl, ht8, hc8, _⟩ := TAt.own' ho8
  have h8' := Lib.hid (h7.out.trans (h8.mono h7.out.size))
  have ha8 := Lib.hid (haw.out.more h8'.out)
  clear ho8 h8 ht7
  replace ht8 := Lib.hid ht8
  go_wp2_with fail
  refine (same_yes a8 a c8 c l _ ht8.out ha8.out (by omega)).mono ?_
  rintro e w9 ⟨rfl, h9⟩
  have hee : ((M : Int) == M) = true := beq_self_eq_true _
  have hex : ((x : Int) == x) = true := beq_self_eq_true _
  go_wp2
  go_ret
  exact ⟨rfl, h8'.out.trans (h9.mono h8'.out.size)⟩
end Go.Proofs.Ytaecfgakgpndaaa
