/- The search by pairs, ahead and behind. No condition. -/
import Derived.Test.YtakgehcfomfmdaaCSide
import Derived.Deep.LoopGhost
import Derived.WalkSmall
namespace Go.Proofs.Ytakgehcfomfmdaa
open Go.RowKit

theorem row_lit (w : World) (s : Int) : ((w.alloc (.map #[] 0)).alloc (.cells #[.int .i64 s] 3)).ownsRow (w.heap.size + 1) 3 1 (.slice (some ⟨w.heap.size + 1, 0, none⟩) 1 1) [s].length (icells [s]) := by
  refine ⟨rfl, .inr ⟨w.heap.size + 1, 1, #[.int .i64 s], rfl, Nat.le_refl _, ?_, Nat.le_refl _, by decide, rfl, rfl⟩⟩
  have := heap_alloc_new (w.alloc (.map #[] 0)) (.cells #[.int .i64 s] 3)
  rwa [show (w.alloc (.map #[] 0)).heap.size = w.heap.size + 1 by simp] at this
set_option maxHeartbeats 1600000 in
theorem reach_ahead' (a : Option Addr) (c : Nat) (E F : List (Int × Int)) (hF : F = E) (s : Int) (w : World) (hE : PAt w a E) (hl : E.length ≤ 1000000) (hs : (Lit.int .i64 s).wf = true) :
    Calls Try.prog 21 #[.int .i64 s, .func (.func 22) #[.agg #[.slice a E.length c]] #[]] w fun e w' => ∃ acc : List Int, e = .returned (.map (some w.heap.size)) ∧ MapSet w' w.heap.size acc ∧ acc.Nodup ∧ (∀ x, x ∈ acc ↔ Rt F s x) ∧ IWf acc ∧ acc.length ≤ E.length ∧ Below w.heap.size w w' := by
  obtain ⟨ii, hi0, hz0, hz1, hz2⟩ := info_parts infoInt
  have hmm := @run_makeMap Try.prog
  have hFl : F.length = E.length := by rw [hF]
  have hwf2 : IWf (F.map (·.2)) := by rw [hF]; exact hE.wf2
  have hside : ∀ n w', PAt w' a E → Calls Try.prog 22 #[.agg #[.slice a E.length c], .int .i64 n] w' fun e w2 => ∃ v, e = .returned v ∧ w2.ownsRow w'.heap.size 3 1 v (nxt F n).length (icells (nxt F n)) ∧ Below w'.heap.size w' w2 := fun n w' h => by
    rw [hF]; exact ahead_any a c E n w' h hl
  replace hside := Lib.hid hside
  replace hwf2 := Lib.hid hwf2
  replace hE := Lib.hid hE
  replace hF := Lib.hid hF
  go_enter Try.func21, Try.ntmps21
  go_wp2
  go_loopg [6] (2 * E.length + 1) (fun g td wr => ∃ acc todo : List Int, g + 2 * acc.length = 2 * E.length + todo.length ∧ acc.length ≤ E.length ∧ todo.length ≤ acc.length + 1 ∧ Aside (Sr F s acc todo ∧ MapSet wr w.heap.size acc ∧ wr.ownsRow (w.heap.size + 1) 3 1 td todo.length (icells todo) ∧ Below w.heap.size w wr))
  case atStart =>
    refine ⟨[], [s], by simp, by simp, by simp, Sr.start _ _, ?_, ?_, ((Below.refl _ _).alloc (Nat.le_refl _) _).alloc (by simp) _⟩
    · exact (MapSet.made w).more ((Below.refl _ _).alloc (Nat.le_refl _) _)
    · exact row_lit w s
  case round =>
    obtain ⟨acc, todo, hg, hal, htl, hA⟩ := hrel
    obtain ⟨hSr, hM, ho, hb⟩ := hA.out
    rcases todo.eq_nil_or_concat with h0 | ⟨td', n, h0⟩
    · subst h0
      obtain ⟨a6, c6, rfl, _⟩ := IAt.own ho
      obtain ⟨e1, e2⟩ := hSr.end_
      have e3 : IWf acc := fun x hx => hwf2.out x (rt_target ((e2 x).1 hx))
      go_wp2
      go_ret
      exact ⟨acc, rfl, hM, e1, e2, e3, hal, hb⟩
    · rw [List.concat_eq_append] at h0
      subst h0
      rcases ho.2 with ⟨e1, e2⟩ | ⟨g6, c6, cur6, rfl, hg6, hh6, hn6, hm6, hz6, ht6⟩
      · simp at e2
      have hlen : (td' ++ [n]).length = td'.length + 1 := by simp
      rw [hlen] at ho hg htl hn6 ⊢
      rw [icells_append] at ho
      have hcn : wr.cell? ⟨g6, td'.length, none⟩ = some (.int .i64 n) := by
        have := ho.cellAt (g := g6) (j := td'.length) (by omega)
        rw [this]
        simp [icells]
      have ho' := ownsRow_pop (by simp [icells_length]) ho
      have hSm := hSr.pop
      have hnw : (Lit.int .i64 n).wf = true := by
        rcases hSm.src with e | e
        · rw [e]; exact hs
        · exact hwf2.out n (rt_target (hSr.reach n e))
      have hE' := hE.out.more hb
      have hcap : (td'.length : Int) ≤ c6 := by omega
      have hc0 : (0 : Int) ≤ (td'.length : Int) := by omega
      have A2 : Aside (Sm F s n [] acc td' ∧ MapSet wr w.heap.size acc ∧ wr.ownsRow (w.heap.size + 1) 3 1 (.slice (some ⟨g6, 0, none⟩) td'.length c6) td'.length (icells td') ∧ Below w.heap.size w wr) := ⟨hSm, hM, ho', hb⟩
      clear hA hSr hM ho hb ho' hSm ht6 hz6 hh6 hlen
      go_wp2_with fail
      refine (hside.out n _ hE').mono ?_
      rintro e w1 ⟨v1, rfl, ho1, hb1⟩
      have hxs : (nxt F n).length ≤ E.length := by
        rw [nxt, List.length_map]
        exact Nat.le_trans (List.length_filter_le _ _) (by omega)
      obtain ⟨xs, hx⟩ : ∃ xs, xs = nxt F n := ⟨_, rfl⟩
      rw [← hx] at ho1 hxs
      obtain ⟨hSm, hM, ho', hb⟩ := A2.out
      obtain ⟨a1, c1, rfl, hx1⟩ := IAt.own ho1
      have hbs := hb.size
      have hT : Two (w.heap.size + 1) w1 (.slice (some ⟨g6, 0, none⟩) td'.length c6) td' (.slice a1 xs.length c1) xs := ⟨(Chg.of_below hb1).row ho' (fun _ _ => id), row_base ho1 (by have := hM.lt; omega), fun k hk hk2 => by
        have := (ho'.lt k hk).2
        have := (ho1.lt k hk2).1
        omega⟩
      have A3 : Aside (Sm F s n [] acc td' ∧ MapSet w1 w.heap.size acc ∧ Two (w.heap.size + 1) w1 (.slice (some ⟨g6, 0, none⟩) td'.length c6) td' (.slice a1 xs.length c1) xs ∧ Below w.heap.size w w1) := ⟨hSm, hM.more hb1, hT, hb.trans (hb1.mono hbs)⟩
      replace hx := Lib.hid hx
      clear A2 hSm hM ho' hb hT ho1 hb1 hx1 hE'
      go_wp2
      go_loopg [31, 6] (xs.length) (fun g2 i td wr => ∃ (k : Nat) (ac2 td2 : List Int), g2 + k = xs.length ∧ i = .int .i64 k ∧ td2.length + acc.length = td'.length + ac2.length ∧ acc.length ≤ ac2.length ∧ ac2.length ≤ E.length ∧ td2.length ≤ ac2.length ∧ Aside (Sm F s n (xs.take k) ac2 td2 ∧ MapSet wr w.heap.size ac2 ∧ Two (w.heap.size + 1) wr td td2 (.slice a1 xs.length c1) xs ∧ Below w.heap.size w wr))
      case atStart => exact ⟨0, acc, td', rfl, rfl, by omega, Nat.le_refl _, hal, by omega, A3⟩
      case round =>
        obtain ⟨k, ac2, td2, hk, rfl, hbal, hge, hal2, htl2, hA⟩ := hrel
        by_cases hlt : k < xs.length
        · obtain ⟨hSm, hM, hT, hb⟩ := hA.out
          obtain ⟨_, _, e1, hx2⟩ := IAt.own hT.2.1
          injection e1 with e1 e2 e3
          subst e1 e3
          clear e2
          obtain ⟨bx, ox, rfl, hcx⟩ := hx2 k hlt
          have htk : xs.take (k + 1) = xs.take k ++ [xs[k]] := List.take_succ_eq_append_getElem hlt
          have hmem : xs[k] ∈ nxt F n := by rw [← hx.out]; exact List.getElem_mem hlt
          obtain ⟨x, hxe⟩ : ∃ x, x = xs[k] := ⟨_, rfl⟩
          rw [← hxe] at hcx htk hmem
          have hEx := mem_nxt.1 hmem
          have hxw : (Lit.int .i64 x).wf = true := hwf2.out x (List.mem_map.2 ⟨_, hEx, rfl⟩)
          replace htk := Lib.hid htk
          replace hxe := Lib.hid hxe
          replace hEx := Lib.hid hEx
          replace hA := Lib.hid hA
          clear hmem
          by_cases hin : x ∈ ac2
          · have hd : decide (x ∈ ac2) = true := decide_eq_true hin
            replace hin := Lib.hid hin
            clear hSm hT hb
            go_wp2_with (at_lookup; refine wpList_set_look rfl (.tmp 35) (.tmp 36) rfl rfl hM x rfl hxw ?_)
            go_roundg (xs.length - (k + 1))
            case rel => exact ⟨k + 1, ac2, td2, by omega, by go_num, hbal, hge, hal2, htl2, by
              obtain ⟨hSm, hM, hT, hb⟩ := hA.out.out
              exact ⟨by rw [htk.out]; exact hSm.old hin.out, hM, hT, hb⟩⟩
            case measure => omega
          · have hd : decide (x ∈ ac2) = false := decide_eq_false hin
            have hSm2 := hSm.new hin hEx.out
            have hal3 : (ac2 ++ [x]).length ≤ E.length := by rw [← hFl]; exact acc_len hSm2.nd hSm2.reach
            rw [List.length_append] at hal3
            simp only [List.length_cons, List.length_nil] at hal3
            replace hSm2 := Lib.hid hSm2
            replace hin := Lib.hid hin
            have hbs := hb.size
            replace hb := Lib.hid hb
            replace hT := Lib.hid hT
            clear hSm
            go_wp2_with (first | (at_lookup; refine wpList_set_look rfl (.tmp 35) (.tmp 36) rfl rfl hM x rfl hxw ?_) | (at_mapUpdate; refine wpList_set_add rfl (.tmp 39) (.tmp 40) _ rfl rfl hM (by omega) x rfl rfl hxw ?_; intro w3 hM3 hg3; have hT3 := Lib.hid (hT.out.turned hg3 (Nat.lt_succ_self _)); have hb3 := Lib.hid (hb.out.grown hg3 hbs (fun k e => by cases e; exact Nat.le_refl _)); have hbs3 := hb3.out.size; replace hM3 := Lib.hid hM3; clear hg3 hM) | (at_builtin; refine wpList_append_own' rfl (.tmp 41) (.tmp 43) 25 rfl (w.heap.size + 1) 3 ii (.int .i64 0) 1 8 Try.underlying25 hi0 hz0 hz1 hz2 rfl (by decide) _ _ _ rfl (hT3.out.more ((Below.refl _ _).alloc (Nat.le_refl _) _)).1 ⟨w3.heap.size, 0, none⟩ 1 1 (icells [x]) rfl rfl (new_one _ rfl) (icells_one _) (by unfold maxLen; omega) (by omega) (by have := hM3.out.lt; simp; omega) ?_; intro td3 w4 hown' hgrow hrow; have hT4 := Lib.hid ((hT3.out.more ((Below.refl _ _).alloc (Nat.le_refl _) _)).grow hown' rfl hgrow hrow); have hM4 := Lib.hid ((hM3.out.more ((Below.refl _ _).alloc (Nat.le_refl _) _)).kept (Chg.grown (S := fun j => j ≠ w.heap.size) (Chg.refl _ _) hgrow (fun j _ e h => by have := (hT3.out.1.lt j e).1; omega)) (fun h => h rfl)); have hb4 := Lib.hid ((hb3.out.alloc hbs3 _).grown hgrow (by simp; omega) (fun j e => by have := (hT3.out.1.lt j e).1; omega)); clear hown' hgrow hrow hT3 hM3 hb3))
            go_roundg (xs.length - (k + 1))
            case rel => exact ⟨k + 1, ac2 ++ [x], td2 ++ [x], by omega, by go_num, by simp; omega, by simp; omega, by simp; omega, by simp; omega, by rw [htk.out]; exact ⟨hSm2.out, hM4.out, hT4.out, hb4.out⟩⟩
            case measure => omega
        · obtain rfl : k = xs.length := by omega
          obtain ⟨hSm, hM, hT, hb⟩ := hA.out
          rw [List.take_length, hx.out] at hSm
          have A4 : Aside (Sr F s ac2 td2 ∧ MapSet wr w.heap.size ac2 ∧ wr.ownsRow (w.heap.size + 1) 3 1 _ td2.length (icells td2) ∧ Below w.heap.size w wr) := ⟨hSm.all, hM, hT.1, hb⟩
          clear hA hSm hM hT hb
          go_wp2
          go_roundg (2 * E.length + td2.length - 2 * ac2.length)
          case measure => omega
          case rel => exact ⟨ac2, td2, by omega, hal2, by omega, A4⟩
set_option maxHeartbeats 1600000 in
theorem reach_behind' (a : Option Addr) (c : Nat) (E F : List (Int × Int)) (hF : F = (rev E)) (s : Int) (w : World) (hE : PAt w a E) (hl : E.length ≤ 1000000) (hs : (Lit.int .i64 s).wf = true) :
    Calls Try.prog 21 #[.int .i64 s, .func (.func 23) #[.agg #[.slice a E.length c]] #[]] w fun e w' => ∃ acc : List Int, e = .returned (.map (some w.heap.size)) ∧ MapSet w' w.heap.size acc ∧ acc.Nodup ∧ (∀ x, x ∈ acc ↔ Rt F s x) ∧ IWf acc ∧ acc.length ≤ E.length ∧ Below w.heap.size w w' := by
  obtain ⟨ii, hi0, hz0, hz1, hz2⟩ := info_parts infoInt
  have hmm := @run_makeMap Try.prog
  have hFl : F.length = E.length := by rw [hF]; simp [rev]
  have hwf2 : IWf (F.map (·.2)) := by rw [hF]; have := hE.wf1; simpa [rev, Function.comp_def] using this
  have hside : ∀ n w', PAt w' a E → Calls Try.prog 23 #[.agg #[.slice a E.length c], .int .i64 n] w' fun e w2 => ∃ v, e = .returned v ∧ w2.ownsRow w'.heap.size 3 1 v (nxt F n).length (icells (nxt F n)) ∧ Below w'.heap.size w' w2 := fun n w' h => by
    rw [hF]; exact behind_any a c E n w' h hl
  replace hside := Lib.hid hside
  replace hwf2 := Lib.hid hwf2
  replace hE := Lib.hid hE
  replace hF := Lib.hid hF
  go_enter Try.func21, Try.ntmps21
  go_wp2
  go_loopg [6] (2 * E.length + 1) (fun g td wr => ∃ acc todo : List Int, g + 2 * acc.length = 2 * E.length + todo.length ∧ acc.length ≤ E.length ∧ todo.length ≤ acc.length + 1 ∧ Aside (Sr F s acc todo ∧ MapSet wr w.heap.size acc ∧ wr.ownsRow (w.heap.size + 1) 3 1 td todo.length (icells todo) ∧ Below w.heap.size w wr))
  case atStart =>
    refine ⟨[], [s], by simp, by simp, by simp, Sr.start _ _, ?_, ?_, ((Below.refl _ _).alloc (Nat.le_refl _) _).alloc (by simp) _⟩
    · exact (MapSet.made w).more ((Below.refl _ _).alloc (Nat.le_refl _) _)
    · exact row_lit w s
  case round =>
    obtain ⟨acc, todo, hg, hal, htl, hA⟩ := hrel
    obtain ⟨hSr, hM, ho, hb⟩ := hA.out
    rcases todo.eq_nil_or_concat with h0 | ⟨td', n, h0⟩
    · subst h0
      obtain ⟨a6, c6, rfl, _⟩ := IAt.own ho
      obtain ⟨e1, e2⟩ := hSr.end_
      have e3 : IWf acc := fun x hx => hwf2.out x (rt_target ((e2 x).1 hx))
      go_wp2
      go_ret
      exact ⟨acc, rfl, hM, e1, e2, e3, hal, hb⟩
    · rw [List.concat_eq_append] at h0
      subst h0
      rcases ho.2 with ⟨e1, e2⟩ | ⟨g6, c6, cur6, rfl, hg6, hh6, hn6, hm6, hz6, ht6⟩
      · simp at e2
      have hlen : (td' ++ [n]).length = td'.length + 1 := by simp
      rw [hlen] at ho hg htl hn6 ⊢
      rw [icells_append] at ho
      have hcn : wr.cell? ⟨g6, td'.length, none⟩ = some (.int .i64 n) := by
        have := ho.cellAt (g := g6) (j := td'.length) (by omega)
        rw [this]
        simp [icells]
      have ho' := ownsRow_pop (by simp [icells_length]) ho
      have hSm := hSr.pop
      have hnw : (Lit.int .i64 n).wf = true := by
        rcases hSm.src with e | e
        · rw [e]; exact hs
        · exact hwf2.out n (rt_target (hSr.reach n e))
      have hE' := hE.out.more hb
      have hcap : (td'.length : Int) ≤ c6 := by omega
      have hc0 : (0 : Int) ≤ (td'.length : Int) := by omega
      have A2 : Aside (Sm F s n [] acc td' ∧ MapSet wr w.heap.size acc ∧ wr.ownsRow (w.heap.size + 1) 3 1 (.slice (some ⟨g6, 0, none⟩) td'.length c6) td'.length (icells td') ∧ Below w.heap.size w wr) := ⟨hSm, hM, ho', hb⟩
      clear hA hSr hM ho hb ho' hSm ht6 hz6 hh6 hlen
      go_wp2_with fail
      refine (hside.out n _ hE').mono ?_
      rintro e w1 ⟨v1, rfl, ho1, hb1⟩
      have hxs : (nxt F n).length ≤ E.length := by
        rw [nxt, List.length_map]
        exact Nat.le_trans (List.length_filter_le _ _) (by omega)
      obtain ⟨xs, hx⟩ : ∃ xs, xs = nxt F n := ⟨_, rfl⟩
      rw [← hx] at ho1 hxs
      obtain ⟨hSm, hM, ho', hb⟩ := A2.out
      obtain ⟨a1, c1, rfl, hx1⟩ := IAt.own ho1
      have hbs := hb.size
      have hT : Two (w.heap.size + 1) w1 (.slice (some ⟨g6, 0, none⟩) td'.length c6) td' (.slice a1 xs.length c1) xs := ⟨(Chg.of_below hb1).row ho' (fun _ _ => id), row_base ho1 (by have := hM.lt; omega), fun k hk hk2 => by
        have := (ho'.lt k hk).2
        have := (ho1.lt k hk2).1
        omega⟩
      have A3 : Aside (Sm F s n [] acc td' ∧ MapSet w1 w.heap.size acc ∧ Two (w.heap.size + 1) w1 (.slice (some ⟨g6, 0, none⟩) td'.length c6) td' (.slice a1 xs.length c1) xs ∧ Below w.heap.size w w1) := ⟨hSm, hM.more hb1, hT, hb.trans (hb1.mono hbs)⟩
      replace hx := Lib.hid hx
      clear A2 hSm hM ho' hb hT ho1 hb1 hx1 hE'
      go_wp2
      go_loopg [31, 6] (xs.length) (fun g2 i td wr => ∃ (k : Nat) (ac2 td2 : List Int), g2 + k = xs.length ∧ i = .int .i64 k ∧ td2.length + acc.length = td'.length + ac2.length ∧ acc.length ≤ ac2.length ∧ ac2.length ≤ E.length ∧ td2.length ≤ ac2.length ∧ Aside (Sm F s n (xs.take k) ac2 td2 ∧ MapSet wr w.heap.size ac2 ∧ Two (w.heap.size + 1) wr td td2 (.slice a1 xs.length c1) xs ∧ Below w.heap.size w wr))
      case atStart => exact ⟨0, acc, td', rfl, rfl, by omega, Nat.le_refl _, hal, by omega, A3⟩
      case round =>
        obtain ⟨k, ac2, td2, hk, rfl, hbal, hge, hal2, htl2, hA⟩ := hrel
        by_cases hlt : k < xs.length
        · obtain ⟨hSm, hM, hT, hb⟩ := hA.out
          obtain ⟨_, _, e1, hx2⟩ := IAt.own hT.2.1
          injection e1 with e1 e2 e3
          subst e1 e3
          clear e2
          obtain ⟨bx, ox, rfl, hcx⟩ := hx2 k hlt
          have htk : xs.take (k + 1) = xs.take k ++ [xs[k]] := List.take_succ_eq_append_getElem hlt
          have hmem : xs[k] ∈ nxt F n := by rw [← hx.out]; exact List.getElem_mem hlt
          obtain ⟨x, hxe⟩ : ∃ x, x = xs[k] := ⟨_, rfl⟩
          rw [← hxe] at hcx htk hmem
          have hEx := mem_nxt.1 hmem
          have hxw : (Lit.int .i64 x).wf = true := hwf2.out x (List.mem_map.2 ⟨_, hEx, rfl⟩)
          replace htk := Lib.hid htk
          replace hxe := Lib.hid hxe
          replace hEx := Lib.hid hEx
          replace hA := Lib.hid hA
          clear hmem
          by_cases hin : x ∈ ac2
          · have hd : decide (x ∈ ac2) = true := decide_eq_true hin
            replace hin := Lib.hid hin
            clear hSm hT hb
            go_wp2_with (at_lookup; refine wpList_set_look rfl (.tmp 35) (.tmp 36) rfl rfl hM x rfl hxw ?_)
            go_roundg (xs.length - (k + 1))
            case rel => exact ⟨k + 1, ac2, td2, by omega, by go_num, hbal, hge, hal2, htl2, by
              obtain ⟨hSm, hM, hT, hb⟩ := hA.out.out
              exact ⟨by rw [htk.out]; exact hSm.old hin.out, hM, hT, hb⟩⟩
            case measure => omega
          · have hd : decide (x ∈ ac2) = false := decide_eq_false hin
            have hSm2 := hSm.new hin hEx.out
            have hal3 : (ac2 ++ [x]).length ≤ E.length := by rw [← hFl]; exact acc_len hSm2.nd hSm2.reach
            rw [List.length_append] at hal3
            simp only [List.length_cons, List.length_nil] at hal3
            replace hSm2 := Lib.hid hSm2
            replace hin := Lib.hid hin
            have hbs := hb.size
            replace hb := Lib.hid hb
            replace hT := Lib.hid hT
            clear hSm
            go_wp2_with (first | (at_lookup; refine wpList_set_look rfl (.tmp 35) (.tmp 36) rfl rfl hM x rfl hxw ?_) | (at_mapUpdate; refine wpList_set_add rfl (.tmp 39) (.tmp 40) _ rfl rfl hM (by omega) x rfl rfl hxw ?_; intro w3 hM3 hg3; have hT3 := Lib.hid (hT.out.turned hg3 (Nat.lt_succ_self _)); have hb3 := Lib.hid (hb.out.grown hg3 hbs (fun k e => by cases e; exact Nat.le_refl _)); have hbs3 := hb3.out.size; replace hM3 := Lib.hid hM3; clear hg3 hM) | (at_builtin; refine wpList_append_own' rfl (.tmp 41) (.tmp 43) 25 rfl (w.heap.size + 1) 3 ii (.int .i64 0) 1 8 Try.underlying25 hi0 hz0 hz1 hz2 rfl (by decide) _ _ _ rfl (hT3.out.more ((Below.refl _ _).alloc (Nat.le_refl _) _)).1 ⟨w3.heap.size, 0, none⟩ 1 1 (icells [x]) rfl rfl (new_one _ rfl) (icells_one _) (by unfold maxLen; omega) (by omega) (by have := hM3.out.lt; simp; omega) ?_; intro td3 w4 hown' hgrow hrow; have hT4 := Lib.hid ((hT3.out.more ((Below.refl _ _).alloc (Nat.le_refl _) _)).grow hown' rfl hgrow hrow); have hM4 := Lib.hid ((hM3.out.more ((Below.refl _ _).alloc (Nat.le_refl _) _)).kept (Chg.grown (S := fun j => j ≠ w.heap.size) (Chg.refl _ _) hgrow (fun j _ e h => by have := (hT3.out.1.lt j e).1; omega)) (fun h => h rfl)); have hb4 := Lib.hid ((hb3.out.alloc hbs3 _).grown hgrow (by simp; omega) (fun j e => by have := (hT3.out.1.lt j e).1; omega)); clear hown' hgrow hrow hT3 hM3 hb3))
            go_roundg (xs.length - (k + 1))
            case rel => exact ⟨k + 1, ac2 ++ [x], td2 ++ [x], by omega, by go_num, by simp; omega, by simp; omega, by simp; omega, by simp; omega, by rw [htk.out]; exact ⟨hSm2.out, hM4.out, hT4.out, hb4.out⟩⟩
            case measure => omega
        · obtain rfl : k = xs.length := by omega
          obtain ⟨hSm, hM, hT, hb⟩ := hA.out
          rw [List.take_length, hx.out] at hSm
          have A4 : Aside (Sr F s ac2 td2 ∧ MapSet wr w.heap.size ac2 ∧ wr.ownsRow (w.heap.size + 1) 3 1 _ td2.length (icells td2) ∧ Below w.heap.size w wr) := ⟨hSm.all, hM, hT.1, hb⟩
          clear hA hSm hM hT hb
          go_wp2
          go_roundg (2 * E.length + td2.length - 2 * ac2.length)
          case measure => omega
          case rel => exact ⟨ac2, td2, by omega, hal2, by omega, A4⟩
end Go.Proofs.Ytakgehcfomfmdaa
