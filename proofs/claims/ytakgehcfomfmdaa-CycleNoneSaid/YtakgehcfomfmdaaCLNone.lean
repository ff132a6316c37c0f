/- The walk of the law CycleNone. No condition. -/
import Derived.Test.YtakgehcfomfmdaaCPRow
namespace Go.Proofs.Ytakgehcfomfmdaa
open Go.RowKit

def down (E : List (Int × Int)) : List (Int × Int) := (E.filter fun p => p.1 != p.2).map fun p => (max p.1 p.2, min p.1 p.2)
theorem down_lt {E : List (Int × Int)} {a b : Int} (h : Rt (down E) a b) : b < a := by
  have h1 : ∀ x y, (x, y) ∈ down E → y < x := by
    intro x y hxy
    obtain ⟨p, hp, e⟩ := List.mem_map.1 hxy
    have h2 := (List.mem_filter.1 hp).2
    simp only [bne_iff_ne, ne_eq] at h2
    simp only [Prod.mk.injEq] at e
    omega
  induction h with
  | one h2 => exact h1 _ _ h2
  | more _ h3 ih => have := h1 _ _ h3; omega
set_option maxRecDepth 100000 in
set_option maxHeartbeats 1600000 in
theorem cycleNone_walk (v : Value) (E : List (Int × Int)) (s : Int) (w : World) (hv : IsPairs w v E) (hs : (Lit.int .i64 s).wf = true) :
    Calls Try.prog 8 #[v, .int .i64 s] w fun e w' => e = .returned (.bool true) ∧ Below w.heap.size w w' := by
  obtain ⟨a, c, rfl, hE, hlen⟩ := hv
  by_cases d1 : 40 < (E.length : Int)
  · go_enter Try.func8, Try.ntmps8
    go_wp2_with fail
    refine (alive_true _).mono ?_
    rintro e w2 ⟨rfl, h2⟩
    go_wp2
    go_ret
    exact ⟨rfl, h2⟩
  obtain ⟨ii, hi0, hz0, hz1, hz2⟩ := info_parts infoPair
  go_enter Try.func8, Try.ntmps8
  go_wp2_with fail
  refine (alive_true _).mono ?_
  rintro e w1 ⟨rfl, h1⟩
  have b1 := Lib.hid h1
  clear h1
  replace hE := Lib.hid hE
  go_wp2
  go_loopg [20, 5] (E.length) (fun g i v wr => ∃ k : Nat, g + k = E.length ∧ i = .int .i64 k ∧ Aside (wr.ownsRow w.heap.size 43 2 v (down (E.take k)).length (pcells (down (E.take k))) ∧ Below w.heap.size w wr))
  case atStart => exact ⟨0, rfl, rfl, World.ownsRow_nil _ _ _ _, b1.out⟩
  case round =>
    obtain ⟨k, hg, rfl, hA⟩ := hrel
    by_cases hlt : k < E.length
    · obtain ⟨ho, hb⟩ := hA.out
      obtain ⟨b, o, rfl, h1, h2, hw1, hw2⟩ := hE.out k hlt
      obtain ⟨p1, p2, hp⟩ : ∃ p1 p2, E[k] = (p1, p2) := ⟨_, _, rfl⟩
      rw [hp] at h1 h2 hw1 hw2
      simp only at h1 h2 hw1 hw2
      have hnl : (down (E.take k)).length ≤ 40 := by
        rw [down, List.length_map]
        refine Nat.le_trans (List.length_filter_le _ _) ?_
        rw [List.length_take]; omega
      have hn : down (E.take (k + 1)) = down (E.take k) ++ (if p1 = p2 then [] else [(max p1 p2, min p1 p2)]) := by
        rw [List.take_succ_eq_append_getElem hlt, hp]
        simp only [down, List.filter_append, List.map_append, List.filter_cons, List.filter_nil]
        by_cases e : p1 = p2 <;> simp [e]
      have g1 := cell_more hb h1
      have g2 := cell_more hb h2
      have hlt1 := World.block_lt_of_cell? _ _ g1
      have hbs := hb.size
      replace hb := Lib.hid hb
      replace ho := Lib.hid ho
      replace hp := Lib.hid hp
      clear h1 h2 hA b1
      by_cases e : p1 = p2
      · rw [if_pos e, List.append_nil] at hn
        subst e
        replace hn := Lib.hid hn
        go_wp2
        go_roundg (E.length - (k + 1))
        case measure => omega
        case rel => exact ⟨k + 1, by omega, by go_num, by rw [hn.out]; exact ho.out.alloc _, hb.out.alloc hbs _⟩
      · rw [if_neg e] at hn
        have he : (p1 != p2) = true := by rw [bne_iff_ne]; exact e
        replace e := Lib.hid e
        replace hn := Lib.hid hn
        go_wp2_with (at_builtin; refine wpList_append_own' rfl (.tmp 29) (.tmp 41) 22 rfl w.heap.size 43 ii (.agg #[.int .i64 0, .int .i64 0]) 2 16 Try.underlying22 hi0 hz0 hz1 hz2 rfl (by decide) _ _ _ rfl ((ho.out.alloc _).alloc _) ⟨wr.heap.size + 1, 0, none⟩ 1 1 (pcells [(max p1 p2, min p1 p2)]) rfl rfl (new_pair _ (by simp)) (pcells_one _) (by unfold maxLen; omega) (by omega) (by simp; omega) ?_; intro v' w3 hown' hgrow hrow; go_frame)
        have HB := (((hb.out.alloc hbs (.cells #[.int .i64 p1, .int .i64 p2] 43)).alloc (by simp; omega) _).grown hgrow (by simp; omega) (fun k e => (ho.out.lt k e).1))
        go_roundg (E.length - (k + 1))
        case measure => omega
        case rel => exact ⟨k + 1, by omega, by go_num, by rw [hn.out, pcells_append, List.length_append]; exact hown', HB⟩
    · obtain rfl : k = E.length := by omega
      obtain ⟨ho, hb⟩ := hA.out
      rw [List.take_length] at ho
      have hpw : PWf (down E) := by
        intro p hp
        obtain ⟨q, hq, e⟩ := List.mem_map.1 hp
        have hq' := (hE.out.pwf) q (List.mem_filter.1 hq).1
        subst e
        simp only
        constructor
        · rcases Int.le_total q.1 q.2 with h | h
          · rw [Int.max_eq_right h]; exact hq'.2
          · rw [Int.max_eq_left h]; exact hq'.1
        · rcases Int.le_total q.1 q.2 with h | h
          · rw [Int.min_eq_left h]; exact hq'.1
          · rw [Int.min_eq_right h]; exact hq'.2
      obtain ⟨a5, c5, rfl, hF⟩ := PAt.own ho hpw
      have hFl : (down E).length ≤ 40 := by
        rw [down, List.length_map]
        refine Nat.le_trans (List.length_filter_le _ _) ?_
        omega
      have hno : ∀ x, ¬ Rt (down E) x x := fun x h => by have := down_lt h; omega
      replace hno := Lib.hid hno
      replace hF := Lib.hid hF
      replace hb := Lib.hid hb
      clear hA ho hpw b1
      go_wp2_with fail
      refine (victim_any a5 c5 (down E) s _ hF.out (by omega) hs).mono ?_
      rintro e w3 ⟨l, hL, rfl, h3⟩
      obtain rfl := onl_none hL (hno.out s)
      rw [show vicV [] = .tuple #[.int .i64 0, .bool false] from rfl]
      have hF3 := Lib.hid (hF.out.more h3)
      have hb3 := Lib.hid (hb.out.trans (h3.mono hb.out.size))
      clear h3 hb hF hL
      go_wp2_with fail
      refine (any_any a5 c5 (down E) _ hF3.out (by omega)).mono ?_
      rintro e w4 ⟨bb, rfl, hbb, h4⟩
      obtain rfl : bb = false := by
        cases bb
        · rfl
        · obtain ⟨x, hx⟩ := hbb.1 rfl
          exact absurd hx (hno.out x)
      have hF4 := Lib.hid (hF3.out.more h4)
      have hb4 := Lib.hid (hb3.out.trans (h4.mono hb3.out.size))
      clear h4 hb3 hF3 hbb
      go_wp2_with fail
      refine (on_any a5 c5 (down E) s _ hF4.out (by omega) hs).mono ?_
      rintro e w5 ⟨v5, l, rfl, hL, ho5, _, _, h5⟩
      obtain rfl := onl_none hL (hno.out s)
      obtain ⟨a6, c6, rfl, _⟩ := IAt.own ho5
      go_wp2
      go_ret
      exact ⟨rfl, hb4.out.trans (h5.mono hb4.out.size)⟩
end Go.Proofs.Ytakgehcfomfmdaa
