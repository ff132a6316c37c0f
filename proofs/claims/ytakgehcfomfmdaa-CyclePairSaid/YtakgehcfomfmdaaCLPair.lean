/- The walk of the law CyclePair. No condition. -/
import Derived.Test.YtakgehcfomfmdaaCPRow
namespace Go.Proofs.Ytakgehcfomfmdaa
open Go.RowKit

def waits (a b : Int) (l : List Int) : List (Int × Int) := (l.filter fun x => x != a && x != b).map fun x => (x, a)
def pairE (a b : Int) (l : List Int) : List (Int × Int) := [(a, b), (b, a)] ++ waits a b l
theorem pair_target {a b x y : Int} {l : List Int} (h : Rt (pairE a b l) x y) : y = a ∨ y = b := by
  have h1 := rt_target h
  simp only [pairE, waits, List.map_append, List.mem_append, List.map_cons, List.map_nil, List.mem_cons, List.not_mem_nil, or_false, List.map_map, List.mem_map] at h1
  rcases h1 with (h1 | h1) | ⟨z, _, h1⟩
  · exact .inr h1
  · exact .inl h1
  · exact .inl h1.symm
theorem pair_on {a b : Int} {l : List Int} (hne : a ≠ b) : OnL (pairE a b l) a [min a b, max a b] := by
  have h1 : Rt (pairE a b l) a b := .one (by simp [pairE])
  have h2 : Rt (pairE a b l) b a := .one (by simp [pairE])
  refine ⟨by simp; omega, fun x => ⟨fun h => ?_, fun ⟨h, _⟩ => ?_⟩⟩
  · have : x = a ∨ x = b := by simp at h; omega
    rcases this with rfl | rfl
    · exact ⟨h1.trans h2, h1.trans h2⟩
    · exact ⟨h1, h2⟩
  · have := pair_target h
    simp; omega
theorem pair_on2 {a b : Int} {l : List Int} (hne : a ≠ b) : OnL (pairE a b l) b [min a b, max a b] := by
  have h := pair_on (l := l) hne
  have hb : b ∈ [min a b, max a b] := by simp; omega
  obtain ⟨g1, g2⟩ := (h.mem b).1 hb
  exact ⟨h.rise, fun z => (h.mem z).trans ⟨fun ⟨u, v⟩ => ⟨g2.trans u, v.trans g1⟩, fun ⟨u, v⟩ => ⟨g1.trans u, v.trans g2⟩⟩⟩
theorem row_lit2 (w : World) (x y : Int) : (w.alloc (.cells #[.int .i64 x, .int .i64 y, .int .i64 y, .int .i64 x] 43)).ownsRow w.heap.size 43 2 (.slice (some ⟨w.heap.size, 0, none⟩) 2 2) (pairE x y []).length (pcells (pairE x y [])) :=
  ⟨rfl, .inr ⟨w.heap.size, 2, _, rfl, Nat.le_refl _, heap_alloc_new w _, Nat.le_refl _, by decide, rfl, rfl⟩⟩
set_option maxRecDepth 100000 in
set_option maxHeartbeats 1600000 in
theorem cyclePair_walk (x y : Int) (v : Value) (l : List Int) (w : World) (hx : (Lit.int .i64 x).wf = true) (hy : (Lit.int .i64 y).wf = true) (hv : IsInts w v l) :
    Calls Try.prog 9 #[.int .i64 x, .int .i64 y, v] w fun e w' => e = .returned (.bool true) ∧ Below w.heap.size w w' := by
  obtain ⟨a, c, rfl, hI, hwf, hlen⟩ := hv
  by_cases d0 : x = y
  · go_enter Try.func9, Try.ntmps9
    go_wp2_with fail
    refine (alive_true _).mono ?_
    rintro e w2 ⟨rfl, h2⟩
    go_wp2
    go_ret
    exact ⟨rfl, h2⟩
  have d0b : (x == y) = false := by rw [beq_eq_false_iff_ne]; exact d0
  by_cases d1 : 20 < (l.length : Int)
  · replace d0 := Lib.hid d0
    go_enter Try.func9, Try.ntmps9
    go_wp2_with fail
    refine (alive_true _).mono ?_
    rintro e w2 ⟨rfl, h2⟩
    go_wp2
    go_ret
    exact ⟨rfl, h2⟩
  obtain ⟨ii, hi0, hz0, hz1, hz2⟩ := info_parts infoPair
  replace d0 := Lib.hid d0
  replace hI := Lib.hid hI
  replace hwf := Lib.hid hwf
  go_enter Try.func9, Try.ntmps9
  go_wp2_with fail
  refine (alive_true _).mono ?_
  rintro e w1 ⟨rfl, h1⟩
  have b1 := Lib.hid h1
  clear h1
  have row0 := Lib.hid (row_lit2 w1 x y)
  go_wp2
  go_loopg [38, 7] (l.length) (fun g i v wr => ∃ k : Nat, g + k = l.length ∧ i = .int .i64 k ∧ Aside (wr.ownsRow w1.heap.size 43 2 v (pairE x y (l.take k)).length (pcells (pairE x y (l.take k))) ∧ Below w1.heap.size w1 wr))
  case atStart => exact ⟨0, rfl, rfl, row0.out, (Below.refl _ _).alloc (Nat.le_refl _) _⟩
  case round =>
    obtain ⟨k, hg, rfl, hA⟩ := hrel
    by_cases hlt : k < l.length
    · obtain ⟨ho, hb⟩ := hA.out
      obtain ⟨b, o, rfl, h1⟩ := hI.out k hlt
      obtain ⟨z, hz⟩ : ∃ z, l[k] = z := ⟨_, rfl⟩
      rw [hz] at h1
      have hnl : (pairE x y (l.take k)).length ≤ 22 := by
        rw [pairE, waits, List.length_append, List.length_map]
        have := List.length_filter_le (fun z => z != x && z != y) (l.take k)
        rw [List.length_take] at this
        simp; omega
      have hn : pairE x y (l.take (k + 1)) = pairE x y (l.take k) ++ (if z ≠ x ∧ z ≠ y then [(z, x)] else []) := by
        rw [List.take_succ_eq_append_getElem hlt, hz]
        simp only [pairE, waits, List.filter_append, List.map_append, List.filter_cons, List.filter_nil, List.append_assoc]
        by_cases e : z ≠ x ∧ z ≠ y
        · simp [e]
        · rw [if_neg e]
          have : (z != x && z != y) = false := by
            rw [Bool.and_eq_false_iff]
            by_cases e1 : z = x
            · exact .inl (by simp [e1])
            · by_cases e2 : z = y
              · exact .inr (by simp [e2])
              · exact absurd ⟨e1, e2⟩ e
          simp [this]
      have g1 := cell_more (b1.out.trans (hb.mono b1.out.size)) h1
      have hlt1 := World.block_lt_of_cell? _ _ g1
      have hbs := hb.size
      replace hb := Lib.hid hb
      replace ho := Lib.hid ho
      replace hz := Lib.hid hz
      clear h1 hA row0
      by_cases e1 : z = x
      · rw [if_neg (fun h => h.1 e1), List.append_nil] at hn
        have he1 : (z != x) = false := by rw [bne_eq_false_iff_eq]; exact e1
        replace e1 := Lib.hid e1
        replace hn := Lib.hid hn
        go_wp2
        go_roundg (l.length - (k + 1))
        case measure => omega
        case rel => exact ⟨k + 1, by omega, by go_num, by rw [hn.out]; exact ho.out, hb.out⟩
      · by_cases e2 : z = y
        · rw [if_neg (fun h => h.2 e2), List.append_nil] at hn
          have he1 : (z != x) = true := by rw [bne_iff_ne]; exact e1
          have he2 : (z != y) = false := by rw [bne_eq_false_iff_eq]; exact e2
          replace e1 := Lib.hid e1
          replace e2 := Lib.hid e2
          replace hn := Lib.hid hn
          go_wp2
          go_roundg (l.length - (k + 1))
          case measure => omega
          case rel => exact ⟨k + 1, by omega, by go_num, by rw [hn.out]; exact ho.out, hb.out⟩
        · rw [if_pos ⟨e1, e2⟩] at hn
          have he1 : (z != x) = true := by rw [bne_iff_ne]; exact e1
          have he2 : (z != y) = true := by rw [bne_iff_ne]; exact e2
          replace e1 := Lib.hid e1
          replace e2 := Lib.hid e2
          replace hn := Lib.hid hn
          go_wp2_with (at_builtin; refine wpList_append_own' rfl (.tmp 50) (.tmp 54) 22 rfl w1.heap.size 43 ii (.agg #[.int .i64 0, .int .i64 0]) 2 16 Try.underlying22 hi0 hz0 hz1 hz2 rfl (by decide) _ _ _ rfl (ho.out.alloc _) ⟨wr.heap.size, 0, none⟩ 1 1 (pcells [(z, x)]) rfl rfl (new_pair _ rfl) (pcells_one _) (by unfold maxLen; omega) (by omega) (by simp; omega) ?_; intro v' w3 hown' hgrow hrow; go_frame)
          have HB := ((hb.out.alloc hbs (.cells #[.int .i64 z, .int .i64 x] 43)).grown hgrow (by simp; omega) (fun k e => (ho.out.lt k e).1))
          go_roundg (l.length - (k + 1))
          case measure => omega
          case rel => exact ⟨k + 1, by omega, by go_num, by rw [hn.out, pcells_append, List.length_append]; exact hown', HB⟩
    · obtain rfl : k = l.length := by omega
      obtain ⟨ho, hb⟩ := hA.out
      rw [List.take_length] at ho
      have hpw : PWf (pairE x y l) := by
        intro p hp
        rcases List.mem_append.1 hp with h | h
        · simp at h
          rcases h with rfl | rfl
          · exact ⟨hx, hy⟩
          · exact ⟨hy, hx⟩
        · obtain ⟨z, hz, e⟩ := List.mem_map.1 h
          subst e
          exact ⟨hwf.out z (List.mem_filter.1 hz).1, hx⟩
      obtain ⟨a5, c5, rfl, hF⟩ := PAt.own ho hpw
      obtain ⟨F, hFe⟩ : ∃ F, F = pairE x y l := ⟨_, rfl⟩
      have hFl : (pairE x y l).length ≤ 22 := by
        rw [pairE, waits, List.length_append, List.length_map]
        have := List.length_filter_le (fun z => z != x && z != y) l
        simp; omega
      have hno : ∀ z, z ≠ x → z ≠ y → ¬ Rt F z z := fun z h1 h2 h => by rw [hFe] at h; have := pair_target h; omega
      have hon1 : OnL F x [min x y, max x y] := by rw [hFe]; exact pair_on d0.out
      have hon2 : OnL F y [min x y, max x y] := by rw [hFe]; exact pair_on2 d0.out
      rw [← hFe] at hF hFl
      rw [← hFe]
      have hb0 := Lib.hid (show Below w.heap.size w wr from b1.out.trans (hb.mono b1.out.size))
      have hIr := Lib.hid (hI.out.more hb0.out)
      replace hno := Lib.hid hno
      replace hon1 := Lib.hid hon1
      replace hon2 := Lib.hid hon2
      replace hF := Lib.hid hF
      clear hA ho hpw hb b1 row0 hI hFe
      go_wp2
      go_loopg [59] (l.length) (fun g i wx => ∃ k : Nat, g + k = l.length ∧ i = .int .i64 k ∧ Below wr.heap.size wr wx)
      case atStart => exact ⟨0, rfl, rfl, Below.refl _ _⟩
      case round =>
        obtain ⟨k, hg, rfl, hb⟩ := hrel
        by_cases hlt : k < l.length
        · obtain ⟨b, o, rfl, h1⟩ := hIr.out k hlt
          have hzw := hwf.out l[k] (List.getElem_mem hlt)
          obtain ⟨z, hz⟩ : ∃ z, l[k] = z := ⟨_, rfl⟩
          rw [hz] at h1 hzw
          have g1 := cell_more hb h1
          have hlt1 := World.block_lt_of_cell? _ _ g1
          have hF2 := Lib.hid (hF.out.more hb)
          replace hb := Lib.hid hb
          replace hz := Lib.hid hz
          clear h1
          by_cases e1 : z = x
          · have he1 : (z != x) = false := by rw [bne_eq_false_iff_eq]; exact e1
            replace e1 := Lib.hid e1
            go_wp2
            go_roundg (l.length - (k + 1))
            case measure => omega
            case rel => exact ⟨k + 1, by omega, by go_num, hb.out⟩
          · by_cases e2 : z = y
            · have he1 : (z != x) = true := by rw [bne_iff_ne]; exact e1
              have he2 : (z != y) = false := by rw [bne_eq_false_iff_eq]; exact e2
              replace e1 := Lib.hid e1
              replace e2 := Lib.hid e2
              go_wp2
              go_roundg (l.length - (k + 1))
              case measure => omega
              case rel => exact ⟨k + 1, by omega, by go_num, hb.out⟩
            · have hnz := Lib.hid (hno.out z e1 e2)
              have he1 : (z != x) = true := by rw [bne_iff_ne]; exact e1
              have he2 : (z != y) = true := by rw [bne_iff_ne]; exact e2
              replace e1 := Lib.hid e1
              replace e2 := Lib.hid e2
              go_wp2_with fail
              refine (on_any a5 c5 F z _ hF2.out (by omega) hzw).mono ?_
              rintro e w5 ⟨v5, m, rfl, hL, ho5, _, _, h5⟩
              obtain rfl := onl_none hL hnz.out
              obtain ⟨a6, c6, rfl, _⟩ := IAt.own ho5
              have hb5 := Lib.hid (hb.out.trans (h5.mono hb.out.size))
              clear hL ho5 h5
              go_wp2
              go_roundg (l.length - (k + 1))
              case measure => omega
              case rel => exact ⟨k + 1, by omega, by go_num, hb5.out⟩
        · obtain rfl : k = l.length := by omega
          have hF2 := Lib.hid (hF.out.more hb)
          have hb2 := Lib.hid (hb0.out.trans (hb.mono hb0.out.size))
          have hmx : vicV [min x y, max x y] = .tuple #[.int .i64 (max x y), .bool true] := rfl
          have hcyc : ∃ z, Rt F z z := ⟨x, (onl_some hon1.out).1 (by simp)⟩
          replace hcyc := Lib.hid hcyc
          clear hb hF hb0
          go_wp2_with fail
          refine (victim_any a5 c5 F x _ hF2.out (by omega) hx).mono ?_
          rintro e w3 ⟨m, hL, rfl, h3⟩
          obtain rfl := hL.uniq hon1.out
          rw [hmx]
          have hF3 := Lib.hid (hF2.out.more h3)
          have hb3 := Lib.hid (hb2.out.trans (h3.mono hb2.out.size))
          clear h3 hb2 hF2 hL
          go_wp2_with fail
          refine (victim_any a5 c5 F y _ hF3.out (by omega) hy).mono ?_
          rintro e w4 ⟨m, hL, rfl, h4⟩
          obtain rfl := hL.uniq hon2.out
          rw [hmx]
          have hF4 := Lib.hid (hF3.out.more h4)
          have hb4 := Lib.hid (hb3.out.trans (h4.mono hb3.out.size))
          clear h4 hb3 hF3 hL
          go_wp2_with fail
          refine (on_any a5 c5 F x _ hF4.out (by omega) hx).mono ?_
          rintro e w5 ⟨v5, m, rfl, hL, ho5, _, _, h5⟩
          obtain rfl := hL.uniq hon1.out
          obtain ⟨a6, c6, rfl, _⟩ := IAt.own ho5
          have hF5 := Lib.hid (hF4.out.more h5)
          have hb5 := Lib.hid (hb4.out.trans (h5.mono hb4.out.size))
          clear h5 hb4 hF4 hL ho5
          go_wp2_with fail
          refine (any_any a5 c5 F _ hF5.out (by omega)).mono ?_
          rintro e w6 ⟨bb, rfl, hbb, h6⟩
          obtain rfl := hbb.2 hcyc.out
          go_wp2
          go_ret
          exact ⟨rfl, hb5.out.trans (h6.mono hb5.out.size)⟩
end Go.Proofs.Ytakgehcfomfmdaa
