/- The walk of the law CycleBroken. No condition. -/
import Derived.Test.YtakgehcfomfmdaaCApp
namespace Go.Proofs.Ytakgehcfomfmdaa
open Go.RowKit

def without (v : Int) (F : List (Int × Int)) : List (Int × Int) := F.filter fun p => p.1 != v && p.2 != v
theorem without_len {F : List (Int × Int)} {v : Int} (h : Rt F v v) : (without v F).length < F.length := by
  obtain ⟨c, hc, _⟩ := h.head
  unfold without
  rcases Nat.lt_or_ge (F.filter fun p => p.1 != v && p.2 != v).length F.length with h1 | h1
  · exact h1
  · have h2 : (F.filter fun p => p.1 != v && p.2 != v).length = F.length := Nat.le_antisymm (List.length_filter_le _ _) h1
    have := List.length_filter_eq_length_iff.1 h2 (v, c) hc
    simp at this
theorem last_mem {l : List Int} (h : l ≠ []) : l.getLastD 0 ∈ l := by
  rcases l.eq_nil_or_concat with e | ⟨l', x, e⟩
  · exact absurd e h
  · rw [List.concat_eq_append] at e
    subst e
    simp
theorem OnL.alike {E : List (Int × Int)} {s x : Int} {l : List Int} (h : OnL E s l) (hx : x ∈ l) : OnL E x l := by
  obtain ⟨h1, h2⟩ := (h.mem x).1 hx
  refine ⟨h.rise, fun z => (h.mem z).trans ⟨fun ⟨a, b⟩ => ⟨h2.trans a, b.trans h1⟩, fun ⟨a, b⟩ => ⟨h1.trans a, b.trans h2⟩⟩⟩
set_option maxRecDepth 100000 in
set_option maxHeartbeats 1600000 in
theorem cycleBroken_walk (s : Int) (v : Value) (E : List (Int × Int)) (w : World) (hs : (Lit.int .i64 s).wf = true) (hv : IsPairs w v E) :
    Calls Try.prog 4 #[.int .i64 s, v] w fun e w' => e = .returned (.bool true) ∧ Below w.heap.size w w' := by
  obtain ⟨a, c, rfl, hE, hlen⟩ := hv
  by_cases d1 : 40 < (E.length : Int)
  · go_enter Try.func4, Try.ntmps4
    go_wp2_with fail
    refine (alive_true _).mono ?_
    rintro e w2 ⟨rfl, h2⟩
    go_wp2
    go_ret
    exact ⟨rfl, h2⟩
  obtain ⟨ii, hi0, hz0, hz1, hz2⟩ := info_parts infoPair
  have hpw := Lib.hid hE.pwf
  go_enter Try.func4, Try.ntmps4
  go_wp2_with fail
  refine (alive_true _).mono ?_
  rintro e w1 ⟨rfl, h1⟩
  have hE1 := Lib.hid (hE.more h1)
  have b1 := Lib.hid h1
  clear h1
  have hE40 : E.length ≤ 40 := by omega
  replace hE := Lib.hid hE
  go_wp2_with (at_builtin; refine wpList_append_run (by rfl) (.const (.slice none 0 0)) (.tmp 20) 22 rfl _ _ rfl rfl _ (run_append_rows _ w1.heap.size _ _ 0 [] (World.ownsRow_nil _ _ _ _) a E.length c E rfl hE1.out (by omega) (Nat.le_refl _)) ?_; rintro v2 w2 ⟨hown2, hgrow2, hrow2⟩; have hO2 := Lib.hid (show w2.ownsRow w1.heap.size 43 2 v2 E.length (pcells E) by simpa [pcells] using hown2); have hb2 := Lib.hid ((Below.refl w1.heap.size w1).grown hgrow2 (Nat.le_refl _) (fun k e => by cases e)); clear hown2 hgrow2 hrow2)
  go_loopg [6, 5] 41 (fun g i lv wr => ∃ (k : Nat) (F : List (Int × Int)), g + k = 41 ∧ i = .int .i64 k ∧ F.length + k ≤ 40 ∧ Aside (wr.ownsRow w1.heap.size 43 2 lv F.length (pcells F) ∧ PWf F ∧ Below w1.heap.size w1 wr))
  case atStart => exact ⟨0, E, rfl, rfl, by omega, hO2.out, hpw.out, hb2.out⟩
  case round =>
    obtain ⟨k, F, hg, rfl, hFk, hI⟩ := hrel
    obtain ⟨ho, hw, hb⟩ := hI.out
    obtain ⟨a5, c5, rfl, hF⟩ := PAt.own ho hw
    have hki : (k : Int) ≤ 40 := by omega
    have hbw := Lib.hid (b1.out.trans (hb.mono b1.out.size))
    replace hb := Lib.hid hb
    replace hw := Lib.hid hw
    replace hF := Lib.hid hF
    clear hI ho hO2 hb2
    go_wp2_with fail
    refine (victim_any a5 c5 F s _ hF.out (by omega) hs).mono ?_
    rintro e w3 ⟨l, hL, rfl, h3⟩
    have hF3 := Lib.hid (hF.out.more h3)
    have hbw3 := Lib.hid (hbw.out.trans (h3.mono hbw.out.size))
    have hb3 := Lib.hid (hb.out.trans (h3.mono hb.out.size))
    rcases (show l = [] ∨ l ≠ [] by by_cases e : l = []; exact .inl e; exact .inr e) with h0 | h0
    · subst h0
      rw [show vicV [] = .tuple #[.int .i64 0, .bool false] from rfl]
      clear h3
      go_wp2_with fail
      refine (on_any a5 c5 F s _ hF3.out (by omega) hs).mono ?_
      rintro e w4 ⟨v4, l4, rfl, hL4, ho4, _, _, h4⟩
      obtain rfl := hL4.uniq hL
      obtain ⟨a6, c6, rfl, _⟩ := IAt.own ho4
      go_wp2
      go_ret
      exact ⟨rfl, hbw3.out.trans (h4.mono hbw3.out.size)⟩
    · obtain ⟨z, hz⟩ : ∃ z, z = l.getLastD 0 := ⟨_, rfl⟩
      have hzl : z ∈ l := by rw [hz]; exact last_mem h0
      have hLz := Lib.hid (hL.alike hzl)
      have hzz := ((hL.mem z).1 hzl).2.trans ((hL.mem z).1 hzl).1
      have hzw : (Lit.int .i64 z).wf = true := hF3.out.wf1 z (rt_source hzz)
      have hwl := Lib.hid (without_len hzz)
      have hlp := List.length_pos_iff.2 h0
      rw [vicV, if_neg h0, ← hz]
      replace hz := Lib.hid hz
      replace hzz := Lib.hid hzz
      replace h0 := Lib.hid h0
      clear h3 hL hzl
      go_wp2_with fail
      refine (on_any a5 c5 F z _ hF3.out (by omega) hzw).mono ?_
      rintro e w4 ⟨v4, l4, rfl, hL4, ho4, _, _, h4⟩
      obtain rfl := hL4.uniq hLz.out
      obtain ⟨a6, c6, rfl, _⟩ := IAt.own ho4
      have hF4 := Lib.hid (hF3.out.more h4)
      have hbw4 := Lib.hid (hbw3.out.trans (h4.mono hbw3.out.size))
      have hb4 := Lib.hid (hb3.out.trans (h4.mono hb3.out.size))
      have hne : ((l4.length : Int) == 0) = false := by rw [beq_eq_false_iff_ne]; omega
      clear ho4 h4 hL4 hLz
      go_wp2
      go_loopg [46, 9] (F.length) (fun g i rv wx => ∃ j : Nat, g + j = F.length ∧ i = .int .i64 j ∧ Aside (wx.ownsRow w4.heap.size 43 2 rv (without z (F.take j)).length (pcells (without z (F.take j))) ∧ Below w4.heap.size w4 wx))
      case atStart => exact ⟨0, rfl, rfl, World.ownsRow_nil _ _ _ _, Below.refl _ _⟩
      case round =>
        obtain ⟨j, hgj, rfl, hI⟩ := hrel
        by_cases hlt : j < F.length
        · obtain ⟨hro, hr4⟩ := hI.out
          obtain ⟨b7, o7, rfl, g1, g2, _, _⟩ := hF4.out j hlt
          obtain ⟨p1, p2, hp⟩ : ∃ p1 p2, F[j] = (p1, p2) := ⟨_, _, rfl⟩
          rw [hp] at g1 g2
          simp only at g1 g2
          have hnl : (without z (F.take j)).length ≤ 40 := by
            refine Nat.le_trans (List.length_filter_le _ _) ?_
            rw [List.length_take]; omega
          have hn : without z (F.take (j + 1)) = without z (F.take j) ++ (if p1 ≠ z ∧ p2 ≠ z then [(p1, p2)] else []) := by
            rw [List.take_succ_eq_append_getElem hlt, hp, without, List.filter_append]
            congr 1
            by_cases e : p1 ≠ z ∧ p2 ≠ z
            · simp [e]
            · rw [if_neg e]
              have : (p1 != z && p2 != z) = false := by
                rw [Bool.and_eq_false_iff]
                by_cases e1 : p1 = z
                · exact .inl (by simp [e1])
                · by_cases e2 : p2 = z
                  · exact .inr (by simp [e2])
                  · exact absurd ⟨e1, e2⟩ e
              simp [this]
          have k1 := cell_more hr4 g1
          have k2 := cell_more hr4 g2
          have hlt1 := World.block_lt_of_cell? _ _ k1
          have hr4s := hr4.size
          replace hro := Lib.hid hro
          replace hr4 := Lib.hid hr4
          replace hp := Lib.hid hp
          clear hI g1 g2
          by_cases e1 : p1 = z
          · rw [if_neg (fun h => h.1 e1), List.append_nil] at hn
            have he1 : (p1 != z) = false := by rw [bne_eq_false_iff_eq]; exact e1
            replace e1 := Lib.hid e1
            replace hn := Lib.hid hn
            go_wp2
            go_roundg (F.length - (j + 1))
            case measure => omega
            case rel => exact ⟨j + 1, by omega, by go_num, by rw [hn.out]; exact hro.out.alloc _, hr4.out.alloc hr4s _⟩
          · by_cases e2 : p2 = z
            · rw [if_neg (fun h => h.2 e2), List.append_nil] at hn
              have he1 : (p1 != z) = true := by rw [bne_iff_ne]; exact e1
              have he2 : (p2 != z) = false := by rw [bne_eq_false_iff_eq]; exact e2
              replace e1 := Lib.hid e1
              replace e2 := Lib.hid e2
              replace hn := Lib.hid hn
              go_wp2
              go_roundg (F.length - (j + 1))
              case measure => omega
              case rel => exact ⟨j + 1, by omega, by go_num, by rw [hn.out]; exact hro.out.alloc _, hr4.out.alloc hr4s _⟩
            · rw [if_pos ⟨e1, e2⟩] at hn
              have he1 : (p1 != z) = true := by rw [bne_iff_ne]; exact e1
              have he2 : (p2 != z) = true := by rw [bne_iff_ne]; exact e2
              replace e1 := Lib.hid e1
              replace e2 := Lib.hid e2
              replace hn := Lib.hid hn
              go_wp2_with (at_builtin; refine wpList_append_own' rfl (.tmp 60) (.tmp 62) 22 rfl w4.heap.size 43 ii (.agg #[.int .i64 0, .int .i64 0]) 2 16 Try.underlying22 hi0 hz0 hz1 hz2 rfl (by decide) _ _ _ rfl ((hro.out.alloc _).alloc _) ⟨wr.heap.size + 1, 0, none⟩ 1 1 (pcells [(p1, p2)]) rfl rfl (new_pair _ (by simp)) (pcells_one _) (by unfold maxLen; omega) (by omega) (by simp; omega) ?_; intro v' w6 hown' hgrow hrow; have HO := Lib.hid hown'; have HB := Lib.hid (((hr4.out.alloc hr4s (.cells #[.int .i64 p1, .int .i64 p2] 43)).alloc (by simp; omega) (.cells #[.int .i64 p1, .int .i64 p2] 43)).grown hgrow (by simp; omega) (fun k e => (hro.out.lt k e).1)); clear hown' hgrow hrow)
              go_roundg (F.length - (j + 1))
              case measure => omega
              case rel => exact ⟨j + 1, by omega, by go_num, by rw [hn.out, pcells_append, List.length_append]; exact HO.out, HB.out⟩
        · obtain rfl : j = F.length := by omega
          obtain ⟨hro, hr4⟩ := hI.out
          have hrb := hb4.out.trans (hr4.mono hb4.out.size)
          replace hro := row_base hro hb4.out.size
          rw [List.take_length] at hro
          have hw2 : PWf (without z F) := fun p hp => hw.out p (List.mem_filter.1 hp).1
          have hwl2 := hwl.out
          have A2 : Aside (_ ∧ PWf (without z F) ∧ _) := ⟨hro, hw2, hrb⟩
          clear hI hro hrb hr4 hw2
          go_wp2
          go_roundg (41 - (k + 1))
          case measure => omega
          case rel => exact ⟨k + 1, without z F, by omega, by go_num, by omega, A2⟩
end Go.Proofs.Ytakgehcfomfmdaa
