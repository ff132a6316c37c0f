/- Touches of package record. No condition. -/
import Derived.Test.YtikdjbcfckjccaaDoorRecG
import Derived.Lib.RowBridge
import Derived.Sort.OwnSortedInts
namespace Go.Proofs.YtikdjbcfckjccaaDoor
open Go.RowKit Go.Sort Go.WideShapes
/-- The pages that a record changes. -/
def touch (l : List Pt) : List Int := Lib.compact ((l.map (·.page)).mergeSort fun x y => decide (x ≤ y))
theorem own_put {w : World} {base g cap q : Nat} {e : TypeId} {cs : List Value} {n : Nat} (h : w.ownsRow base e 1 (.slice (some ⟨g, 0, none⟩) n cap) n cs) (ds : List Int) (hl : ds.length = n) (k : Nat) (hk : k ≤ n) (os : Array Obj) :
    (grow (putRow (Value.int .i64) (Sort.ahead w q) g 0 ds.toArray) os).ownsRow base e 1 (.slice (some ⟨g, 0, none⟩) k cap) k ((ds.take k).map (Value.int .i64)) ∧ w.grownBy (grow (putRow (Value.int .i64) (Sort.ahead w q) g 0 ds.toArray) os) (some g) := by
  refine ⟨?_, grownBy_sortedI _⟩
  rcases h.2 with ⟨h0, _⟩ | ⟨g', cap', cur, hv, hb, hg, hn, hm, hz, ht⟩
  · cases h0
  · cases hv
    obtain ⟨_, h2⟩ := ownsRow_sortedI (os := os) (n := q) (w := w) (base := base) (ts := ds) (ss := ds) rfl hb hg (by omega) hm hz
    rcases h2 with ⟨h0, _⟩ | ⟨g', cap', cur', hv, hb', hg', hn', hm', hz', ht'⟩
    · cases h0
    · cases hv
      refine ⟨by simp; omega, .inr ⟨g, cap, cur', rfl, hb, hg', by omega, hm, hz', ?_⟩⟩
      have := congrArg (List.take k) ht'
      rw [List.take_take, Nat.mul_one, Nat.min_eq_left (by omega), ← List.map_take] at this
      rw [Nat.mul_one]
      exact this
theorem grow_nil (w : World) : grow w #[] = w := by unfold grow; simp
theorem own_holds {w : World} {base g cap : Nat} {e : TypeId} {l : List Int} (h : w.ownsRow base e 1 (.slice (some ⟨g, 0, none⟩) l.length cap) l.length (icells l)) : Holds (Value.int .i64) w g 0 l.toArray ∧ g < w.heap.size ∧ l.length ≤ cap := by
  rcases h.2 with ⟨h0, _⟩ | ⟨g', cap', cur, hv, hb, hg, hn, hm, hz, ht⟩
  · cases h0
  · cases hv
    exact ⟨holds_of_blockI hg (by rw [Nat.mul_one] at ht; exact ht), lt_of hg, hn⟩
theorem own_at {w : World} {base n cap : Nat} {e : TypeId} {a : Option Addr} {cs : List Value} (h : w.ownsRow base e 1 (.slice a n cap) n cs) (hn : n ≠ 0) : ∃ g, a = some ⟨g, 0, none⟩ := by
  rcases h.2 with ⟨h0, h1⟩ | ⟨g', cap', cur, hv, _⟩
  · exact absurd h1 hn
  · cases hv; exact ⟨g', rfl⟩

set_option maxRecDepth 100000 in
set_option maxHeartbeats 1600000 in
theorem touches_any (v vp vt vx vd : Value) (r : Rec) (w : World) (h : RecAt w v vp vt vx vd r) (hl : r.pats.length ≤ 1000000) :
    Calls Tryd.prog 16 #[v] w fun e w' => ∃ u, e = .returned u ∧ w'.ownsRow w.heap.size 3 1 u (touch r.pats).length (icells (touch r.pats)) ∧ Below w.heap.size w w' := by
  obtain ⟨ii, hi0, hz0, hz1, hz2⟩ := info_parts infoInt
  obtain ⟨rfl, hp, ⟨a, c, rfl, hA⟩, hx, hd⟩ := h
  obtain ⟨kind, tx, prev, next, key, had, ⟨ok, ov, ob, os⟩, pages, pats, txs, dirty⟩ := r
  simp only at hp hx hd hl hA ⊢
  replace hA := Lib.hid hA
  clear hp hx hd
  go_enter Tryd.func16, Tryd.ntmps16
  go_wp2
  go_loopw [9, 3] (fun i v wr => ∃ k : Nat, k ≤ pats.length ∧ i = .int .i64 k ∧ Aside (wr.ownsRow w.heap.size 3 1 v k (icells ((pats.take k).map (·.page))) ∧ Below w.heap.size w wr)) (fun i _ _ => pats.length - (intOf i).toNat)
  case atStart => exact ⟨0, Nat.zero_le _, rfl, World.ownsRow_nil _ _ _ _, (Below.refl _ _).alloc (Nat.le_refl _) _⟩
  case round =>
    obtain ⟨k, hk, rfl, hI⟩ := hrel
    obtain ⟨ho, hb⟩ := hI.out
    obtain ⟨av, lv, cv, rfl, hlv⟩ := own_form ho
    subst lv
    clear hI
    by_cases hlt : k < pats.length
    · obtain ⟨b, o, rfl, h1, h2, h3⟩ := hA.out k hlt
      have hn : (pats.take (k + 1)).map (·.page) = (pats.take k).map (·.page) ++ [(pats[k]).page] := by
        rw [List.take_succ_eq_append_getElem hlt, List.map_append]; rfl
      obtain ⟨⟨x1, x2, x3⟩, hx⟩ : ∃ x, x = pats[k] := ⟨_, rfl⟩
      rw [← hx] at h1 h2 h3 hn
      simp only at h1 h2 h3 hn
      have g1 := cell_more hb h1
      have g2 := cell_more hb h2
      have g3 := cell_more hb h3
      have hlt1 := World.block_lt_of_cell? _ _ g1
      replace hb := Lib.hid hb
      replace ho := Lib.hid ho
      replace hn := Lib.hid hn
      replace hx := Lib.hid hx
      clear h1 h2 h3
      go_wp2_with (at_builtin; refine wpList_append_own' rfl (.tmp 13) (.tmp 16) 24 rfl w.heap.size 3 ii (.int .i64 0) 1 8 Tryd.underlying24 hi0 hz0 hz1 hz2 rfl (by decide) _ _ _ rfl ((ho.out.alloc _).alloc _) ⟨wr.heap.size + 1, 0, none⟩ 1 1 [.int .i64 x1] rfl rfl (new_one _ (by simp)) (by intro u hu; simp at hu; subst hu; rfl) (by unfold maxLen; omega) (by omega) (by have := hb.out.size; simp; omega) ?_; intro v' w3 hown' hgrow hrow; have HB := Lib.hid (((hb.out.alloc hb.out.size _).alloc (by have := hb.out.size; simp; omega) _).grown hgrow (by have := hb.out.size; simp; omega) (fun k e => (ho.out.lt k e).1)); have HO' := Lib.hid hown'; clear hown' hgrow hrow)
      go_roundw
      case rel => exact ⟨k + 1, hlt, by go_num, by rw [hn.out, icells_append]; exact HO'.out, HB.out⟩
      case measure => simp [intOf]; omega
    · obtain rfl : k = pats.length := by omega
      rw [List.take_length] at ho
      obtain ⟨ss, hss⟩ : ∃ ss, ss = pats.map (·.page) := ⟨_, rfl⟩
      rw [← hss] at ho
      have hsl : ss.length = pats.length := by rw [hss, List.length_map]
      have hto : touch pats = Lib.compact (ss.mergeSort fun x y => decide (x ≤ y)) := by rw [hss]; rfl
      obtain ⟨ts, hts⟩ : ∃ ts, ts = ss.mergeSort fun x y => decide (x ≤ y) := ⟨_, rfl⟩
      rw [← hts] at hto
      have hpl : ts.length = pats.length := by rw [hts, (List.mergeSort_perm ss (fun x y => decide (x ≤ y))).length_eq, hsl]
      replace hb := Lib.hid hb
      replace hA := Lib.hid hA
      by_cases h0 : pats.length = 0
      · have hz : touch pats = [] := by rw [hto, List.length_eq_zero_iff.1 (hpl.trans h0)]; rfl
        rw [List.length_eq_zero_iff.1 (hsl.trans h0)] at ho
        rw [h0] at ho
        have CS := Go.Proofs.Tryd.slices_Sort_int_none av cv wr
        have CC := Go.Proofs.Tryd.slices_Compact_int_empty av cv wr
        rw [← h0] at CS CC
        replace CS := Lib.hid CS
        replace CC := Lib.hid CC
        replace ho := Lib.hid ho
        replace hz := Lib.hid hz
        replace h0 := Lib.hid h0
        clear hA hss hto hts
        replace hsl := Lib.hid hsl
        replace hpl := Lib.hid hpl
        go_wp2_with fail
        refine CS.out.mono ?_
        rintro e w5 ⟨rfl, rfl⟩
        go_wp2_with fail
        refine CC.out.mono ?_
        rintro e w6 ⟨rfl, rfl⟩
        go_wp2
        go_ret
        exact ⟨_, rfl, by rw [hz.out, h0.out]; exact ho.out, hb.out⟩
      · obtain ⟨g, rfl⟩ := own_at ho h0
        have ho1 := ho
        rw [← hsl] at ho1
        obtain ⟨hH, hgl, hcl⟩ := own_holds ho1
        have CS := Go.Proofs.Tryd.slices_Sort_int g 0 cv ss wr hH hgl (by omega)
        rw [← hts, hsl] at CS
        replace CS := Lib.hid CS
        replace hto := Lib.hid hto
        replace hts := Lib.hid hts
        replace hss := Lib.hid hss
        replace hH := Lib.hid hH
        replace ho1 := Lib.hid ho1
        replace ho := Lib.hid ho
        replace hsl := Lib.hid hsl
        go_wp2_with fail
        refine CS.out.mono ?_
        rintro e w5 ⟨rfl, n5, os5, hw5⟩
        have P5 := fun k hk => own_put (q := n5) ho.out ts hpl k hk os5
        rw [← hw5] at P5
        have o5 := (P5 pats.length (Nat.le_refl _)).1
        have gr5 := (P5 pats.length (Nat.le_refl _)).2
        rw [List.take_of_length_le (by omega)] at o5
        have hb5 := hb.out.grown gr5 hb.out.size (fun j e => by cases e; exact (ho.out.lt g rfl).1)
        have o5' := o5
        rw [← hpl] at o5'
        obtain ⟨hH5, hgl5, hcl5⟩ := own_holds o5'
        have CC := Go.Proofs.Tryd.slices_Compact_int g 0 cv ts w5 hH5 (by omega) hcl5
        rw [← hto.out, hpl] at CC
        have hcle : (touch pats).length ≤ pats.length := by rw [hto.out, ← hpl]; exact Lib.compact_length_le ts
        replace CC := Lib.hid CC
        replace hb5 := Lib.hid hb5
        replace hpl := Lib.hid hpl
        clear hH5 P5 hw5 gr5 o5' CS
        replace o5 := Lib.hid o5
        go_wp2_with fail
        refine CC.out.mono ?_
        rintro e w6 ⟨rfl, q6, hw6⟩
        have P6 := own_put (q := q6) o5.out (touch pats ++ List.replicate (pats.length - (touch pats).length) 0) (by simp; omega) (touch pats).length hcle #[]
        rw [grow_nil, ← hw6, List.take_left' rfl] at P6
        have hb6 := hb5.out.grown P6.2 hb5.out.size (fun j e => by cases e; exact (ho.out.lt g rfl).1)
        replace hw6 := Lib.hid hw6
        replace P6 := Lib.hid P6.1
        replace hb6 := Lib.hid hb6
        go_wp2
        go_ret
        exact ⟨_, rfl, P6.out, hb6.out⟩
end Go.Proofs.YtikdjbcfckjccaaDoor
