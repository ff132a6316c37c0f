/- The other ends of pairs. No condition. -/
import Derived.Test.YtakgehcfomfmdaaCMem
namespace Go.Proofs.Ytakgehcfomfmdaa
open Go.RowKit

set_option maxHeartbeats 1600000 in
theorem side_0 (a : Option Addr) (c : Nat) (E : List (Int × Int)) (n : Int) (w : World) (hE : PAt w a E) (hl : E.length ≤ 1000000) :
    Calls Try.prog 67 #[.agg #[.slice a E.length c], .int .i64 n, .int .i64 0] w fun e w' => ∃ v, e = .returned v ∧ w'.ownsRow w.heap.size 3 1 v (nxt E n).length (icells (nxt E n)) ∧ Below w.heap.size w w' := by
  obtain ⟨ii, hi0, hz0, hz1, hz2⟩ := info_parts infoInt
  replace hE := Lib.hid hE
  go_enter Try.func67, Try.ntmps67
  go_wp2
  go_loopw [13, 7] (fun i v wr => ∃ k : Nat, k ≤ E.length ∧ i = .int .i64 k ∧ wr.ownsRow w.heap.size 3 1 v (nxt (E.take k) n).length (icells (nxt (E.take k) n)) ∧ Below w.heap.size w wr) (fun i _ _ => E.length - (intOf i).toNat)
  case atStart => exact ⟨0, Nat.zero_le _, rfl, World.ownsRow_nil _ _ _ _, (Below.refl _ _).alloc (Nat.le_refl _) _⟩
  case round =>
    obtain ⟨k, hk, rfl, ho, hb⟩ := hrel
    by_cases hlt : k < E.length
    · obtain ⟨b, o, rfl, h1, h2, _, _⟩ := hE.out k hlt
      obtain ⟨p1, p2, hp⟩ : ∃ p1 p2, E[k] = (p1, p2) := ⟨_, _, rfl⟩
      rw [hp] at h1 h2
      simp only at h1 h2
      have hnl : (nxt (E.take k) n).length ≤ 1000000 := by
        rw [nxt, List.length_map]
        refine Nat.le_trans (List.length_filter_le _ _) ?_
        simp only [rev, List.length_map, List.length_take]; omega
      have hn : nxt (E.take (k + 1)) n = nxt (E.take k) n ++ (if p1 = n then [p2] else []) := by
        rw [List.take_succ_eq_append_getElem hlt, hp]
        simp only [rev, List.map_append, List.map_cons, List.map_nil, nxt, List.filter_append, List.filter_cons, List.filter_nil]
        by_cases e : p1 = n <;> simp [e]
      have g1 := cell_more hb h1
      have g2 := cell_more hb h2
      have hlt1 := World.block_lt_of_cell? _ _ g1
      replace hb := Lib.hid hb
      replace ho := Lib.hid ho
      clear h1 h2
      by_cases e : p1 = n
      · rw [if_pos e] at hn
        subst e
        replace hn := Lib.hid hn
        replace hp := Lib.hid hp
        go_wp2_with (at_builtin; refine wpList_append_own' rfl (.tmp 22) (.tmp 27) 25 rfl w.heap.size 3 ii (.int .i64 0) 1 8 Try.underlying25 hi0 hz0 hz1 hz2 rfl (by decide) _ _ _ rfl ((ho.out.alloc _).alloc _) ⟨wr.heap.size + 1, 0, none⟩ 1 1 [.int .i64 p2] rfl rfl (new_one _ (by simp)) (by intro u hu; simp at hu; subst hu; rfl) (by unfold maxLen; omega) (by omega) (by have := hb.out.size; simp; omega) ?_; intro v' w3 hown' hgrow hrow; have HB := Lib.hid (((hb.out.alloc hb.out.size _).alloc (by have := hb.out.size; simp; omega) _).grown hgrow (by have := hb.out.size; simp; omega) (fun k e => (ho.out.lt k e).1)); have HO' := Lib.hid hown'; clear hown' hgrow hrow)
        go_roundw
        case rel => exact ⟨k + 1, hlt, by go_num, by rw [hn.out, icells_append, List.length_append]; exact HO'.out, HB.out⟩
        case measure => simp [intOf]; omega
      · rw [if_neg e, List.append_nil] at hn
        have he : (p1 == n) = false := by rw [beq_eq_false_iff_ne]; exact e
        replace e := Lib.hid e
        replace hn := Lib.hid hn
        replace hp := Lib.hid hp
        go_wp2
        go_roundw
        case rel => exact ⟨k + 1, hlt, by go_num, by rw [hn.out]; exact ho.out.alloc _, hb.out.alloc hb.out.size _⟩
        case measure => simp [intOf]; omega
    · obtain rfl : k = E.length := by omega
      rw [List.take_length] at ho
      go_wp2
      go_ret
      exact ⟨_, rfl, ho, hb⟩
set_option maxHeartbeats 1600000 in
theorem side_1 (a : Option Addr) (c : Nat) (E : List (Int × Int)) (n : Int) (w : World) (hE : PAt w a E) (hl : E.length ≤ 1000000) :
    Calls Try.prog 67 #[.agg #[.slice a E.length c], .int .i64 n, .int .i64 1] w fun e w' => ∃ v, e = .returned v ∧ w'.ownsRow w.heap.size 3 1 v (nxt (rev E) n).length (icells (nxt (rev E) n)) ∧ Below w.heap.size w w' := by
  obtain ⟨ii, hi0, hz0, hz1, hz2⟩ := info_parts infoInt
  replace hE := Lib.hid hE
  go_enter Try.func67, Try.ntmps67
  go_wp2
  go_loopw [13, 7] (fun i v wr => ∃ k : Nat, k ≤ E.length ∧ i = .int .i64 k ∧ wr.ownsRow w.heap.size 3 1 v (nxt (rev (E.take k)) n).length (icells (nxt (rev (E.take k)) n)) ∧ Below w.heap.size w wr) (fun i _ _ => E.length - (intOf i).toNat)
  case atStart => exact ⟨0, Nat.zero_le _, rfl, World.ownsRow_nil _ _ _ _, (Below.refl _ _).alloc (Nat.le_refl _) _⟩
  case round =>
    obtain ⟨k, hk, rfl, ho, hb⟩ := hrel
    by_cases hlt : k < E.length
    · obtain ⟨b, o, rfl, h1, h2, _, _⟩ := hE.out k hlt
      obtain ⟨p1, p2, hp⟩ : ∃ p1 p2, E[k] = (p1, p2) := ⟨_, _, rfl⟩
      rw [hp] at h1 h2
      simp only at h1 h2
      have hnl : (nxt (rev (E.take k)) n).length ≤ 1000000 := by
        rw [nxt, List.length_map]
        refine Nat.le_trans (List.length_filter_le _ _) ?_
        simp only [rev, List.length_map, List.length_take]; omega
      have hn : nxt (rev (E.take (k + 1))) n = nxt (rev (E.take k)) n ++ (if p2 = n then [p1] else []) := by
        rw [List.take_succ_eq_append_getElem hlt, hp]
        simp only [rev, List.map_append, List.map_cons, List.map_nil, nxt, List.filter_append, List.filter_cons, List.filter_nil]
        by_cases e : p2 = n <;> simp [e]
      have g1 := cell_more hb h1
      have g2 := cell_more hb h2
      have hlt1 := World.block_lt_of_cell? _ _ g1
      replace hb := Lib.hid hb
      replace ho := Lib.hid ho
      clear h1 h2
      by_cases e : p2 = n
      · rw [if_pos e] at hn
        subst e
        replace hn := Lib.hid hn
        replace hp := Lib.hid hp
        go_wp2_with (at_builtin; refine wpList_append_own' rfl (.tmp 22) (.tmp 27) 25 rfl w.heap.size 3 ii (.int .i64 0) 1 8 Try.underlying25 hi0 hz0 hz1 hz2 rfl (by decide) _ _ _ rfl ((ho.out.alloc _).alloc _) ⟨wr.heap.size + 1, 0, none⟩ 1 1 [.int .i64 p1] rfl rfl (new_one _ (by simp)) (by intro u hu; simp at hu; subst hu; rfl) (by unfold maxLen; omega) (by omega) (by have := hb.out.size; simp; omega) ?_; intro v' w3 hown' hgrow hrow; have HB := Lib.hid (((hb.out.alloc hb.out.size _).alloc (by have := hb.out.size; simp; omega) _).grown hgrow (by have := hb.out.size; simp; omega) (fun k e => (ho.out.lt k e).1)); have HO' := Lib.hid hown'; clear hown' hgrow hrow)
        go_roundw
        case rel => exact ⟨k + 1, hlt, by go_num, by rw [hn.out, icells_append, List.length_append]; exact HO'.out, HB.out⟩
        case measure => simp [intOf]; omega
      · rw [if_neg e, List.append_nil] at hn
        have he : (p2 == n) = false := by rw [beq_eq_false_iff_ne]; exact e
        replace e := Lib.hid e
        replace hn := Lib.hid hn
        replace hp := Lib.hid hp
        go_wp2
        go_roundw
        case rel => exact ⟨k + 1, hlt, by go_num, by rw [hn.out]; exact ho.out.alloc _, hb.out.alloc hb.out.size _⟩
        case measure => simp [intOf]; omega
    · obtain rfl : k = E.length := by omega
      rw [List.take_length] at ho
      go_wp2
      go_ret
      exact ⟨_, rfl, ho, hb⟩
theorem row_base {w : World} {base base' : Nat} {e : TypeId} {size : Nat} {v : Value} {n : Nat} {xs : List Value} (h : w.ownsRow base e size v n xs) (hb : base' ≤ base) : w.ownsRow base' e size v n xs := by
  refine ⟨h.1, ?_⟩
  rcases h.2 with hh | ⟨g, cap, cur, hv, hg, rest⟩
  · exact .inl hh
  · exact .inr ⟨g, cap, cur, hv, Nat.le_trans hb hg, rest⟩
theorem ahead_any (a : Option Addr) (c : Nat) (E : List (Int × Int)) (n : Int) (w : World) (hE : PAt w a E) (hl : E.length ≤ 1000000) :
    Calls Try.prog 22 #[.agg #[.slice a E.length c], .int .i64 n] w fun e w' => ∃ v, e = .returned v ∧ w'.ownsRow w.heap.size 3 1 v (nxt E n).length (icells (nxt E n)) ∧ Below w.heap.size w w' := by
  go_enter Try.func22, Try.ntmps22
  have hEm := hE.more ((Below.refl w.heap.size w).alloc (Nat.le_refl _) (.cells #[.slice a E.length c] 53))
  go_wp2_with fail
  refine (side_0 a c E n _ hEm hl).mono ?_
  rintro e w1 ⟨v, rfl, ho, hb⟩
  go_wp2
  go_ret
  exact ⟨_, rfl, (row_base ho (by simp)), ((Below.refl _ _).alloc (Nat.le_refl _) _).trans (hb.mono (by simp))⟩
theorem behind_any (a : Option Addr) (c : Nat) (E : List (Int × Int)) (n : Int) (w : World) (hE : PAt w a E) (hl : E.length ≤ 1000000) :
    Calls Try.prog 23 #[.agg #[.slice a E.length c], .int .i64 n] w fun e w' => ∃ v, e = .returned v ∧ w'.ownsRow w.heap.size 3 1 v (nxt (rev E) n).length (icells (nxt (rev E) n)) ∧ Below w.heap.size w w' := by
  go_enter Try.func23, Try.ntmps23
  have hEm := hE.more ((Below.refl w.heap.size w).alloc (Nat.le_refl _) (.cells #[.slice a E.length c] 53))
  go_wp2_with fail
  refine (side_1 a c E n _ hEm hl).mono ?_
  rintro e w1 ⟨v, rfl, ho, hb⟩
  go_wp2
  go_ret
  exact ⟨_, rfl, (row_base ho (by simp)), ((Below.refl _ _).alloc (Nat.le_refl _) _).trans (hb.mono (by simp))⟩
end Go.Proofs.Ytakgehcfomfmdaa
