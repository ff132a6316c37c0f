/- The walk of the law CycleMore. No condition. -/
import Derived.Test.YtakgehcfomfmdaaCApp
import Derived.Test.YtakgehcfomfmdaaCOpen2
import Derived.Test.YtakgehcfomfmdaaCSub
import Derived.Deep.RegionHeld3
import Derived.Deep.DrawnRows
namespace Go.Proofs.Ytakgehcfomfmdaa
open Go.RowKit

def mS (w0 : World) (x y : Int) (a : Option Addr) (E : List (Int × Int)) (w2 w : World) : Prop := w.cell? ⟨w0.heap.size, 0, none⟩ = some (.int .i64 x) ∧ w.cell? ⟨w0.heap.size, 1, none⟩ = some (.int .i64 y) ∧ Hid (PAt w a E ∧ Below w2.heap.size w2 w)
section
variable {w0 w2 w w' : World} {x y : Int} {a : Option Addr} {E : List (Int × Int)}
theorem mS_more (h : mS w0 x y a E w2 w) (hb : Below w.heap.size w w') : mS w0 x y a E w2 w' := ⟨cell_more hb h.1, cell_more hb h.2.1, Lib.hid ⟨h.2.2.out.1.more hb, h.2.2.out.2.trans (hb.mono h.2.2.out.2.size)⟩⟩
theorem PAt.grown {ad : Option Addr} {F : List (Int × Int)} {row : Option Nat} (h : PAt w ad F) (hg : w.grownBy w' row) (hr : ∀ k, row = some k → False) : PAt w' ad F :=
  h.more ((Below.refl _ _).grown hg (Nat.le_refl _) (fun k e => (hr k e).elim))
theorem own_nil {base : Nat} {v : Value} {n : Nat} {F : List (Int × Int)} (h : w.ownsRow base 43 2 v (0 + n) (pcells [] ++ pcells F)) : w.ownsRow base 43 2 v n (pcells F) := by simpa [pcells] using h
end
theorem mS_grown {w0 w2 w w' : World} {x y : Int} {a : Option Addr} {E : List (Int × Int)} {row : Option Nat} (h : mS w0 x y a E w2 w) (hg : w.grownBy w' row) (hr : ∀ k, row = some k → w2.heap.size ≤ k)
    (hP : w0.heap.size < w2.heap.size) (hE : PAt w2 a E) : mS w0 x y a E w2 w' := by
  have hb := h.2.2.out.2.grown hg h.2.2.out.2.size hr
  refine ⟨?_, ?_, Lib.hid ⟨hE.more hb, hb⟩⟩
  · rw [World.cell?_of_block (w := w) (hg.block _ (World.block_lt_of_cell? w _ h.1) (fun e => by have := hr _ e.symm; simp only at this; omega))]; exact h.1
  · rw [World.cell?_of_block (w := w) (hg.block _ (World.block_lt_of_cell? w _ h.2.1) (fun e => by have := hr _ e.symm; simp only at this; omega))]; exact h.2.1
theorem row_alloc {w : World} {base : Nat} {v : Value} {n : Nat} {F : List (Int × Int)} (h : w.ownsRow base 43 2 v n (pcells F)) (o : Obj) : (w.alloc o).ownsRow base 43 2 v n (pcells F) := h.alloc o
set_option maxRecDepth 100000 in
set_option maxHeartbeats 3200000 in
theorem cycleMore_walk (s : Int) (v : Value) (E : List (Int × Int)) (u : Value) (q : Int × Int) (w : World) (hs : (Lit.int .i64 s).wf = true) (hv : IsPairs w v E) (hu : IsPair w u q) :
    Calls Try.prog 7 #[.int .i64 s, v, u] w fun e w' => e = .returned (.bool true) ∧ Below w.heap.size w w' := by
  obtain ⟨a, c, rfl, hE, hlen⟩ := hv
  obtain ⟨x, y⟩ := q
  obtain ⟨rfl, hx, hy⟩ := hu
  simp only at hx hy
  by_cases d1 : 40 < (E.length : Int)
  · go_enter Try.func7, Try.ntmps7
    go_wp2_with fail
    refine (alive_true _).mono ?_
    rintro e w2 ⟨rfl, h2⟩
    go_wp2
    go_ret
    exact ⟨rfl, ((Below.refl _ _).alloc (Nat.le_refl _) _).trans (h2.mono (by simp))⟩
  have P0 : (w.alloc (.cells #[.int .i64 x, .int .i64 y] 43)).heap[w.heap.size]? = some (.cells #[.int .i64 x, .int .i64 y] 43 (0, 0)) := heap_alloc_new w _
  have hE0 := hE.more ((Below.refl _ _).alloc (Nat.le_refl _) (.cells #[.int .i64 x, .int .i64 y] 43))
  have hEw := Lib.hid hE.pwf
  go_enter Try.func7, Try.ntmps7
  go_wp2_with fail
  refine (alive_true _).mono ?_
  rintro e w1 ⟨rfl, h1⟩
  have P1 := (h1.block _ (lt_of P0)).trans P0
  have hE1 := Lib.hid (hE0.more h1)
  have b1 := Lib.hid (((Below.refl w.heap.size w).alloc (Nat.le_refl _) (.cells #[.int .i64 x, .int .i64 y] 43)).trans (h1.mono (by simp)))
  replace P1 := Lib.hid P1
  clear P0 hE0 h1
  go_wp2_with fail
  refine (on_any a c E s _ hE1.out (by omega) hs).mono ?_
  rintro e w2 ⟨v2, l1, rfl, hL1, ho2, hw2, hll, h2⟩
  obtain ⟨a2, c2, rfl, i2⟩ := IAt.own ho2
  have P2 := (h2.block _ (lt_of P1.out)).trans P1.out
  have hE2 := hE1.out.more h2
  have b2 := Lib.hid (b1.out.trans (h2.mono b1.out.size))
  have hPlt : w.heap.size < w2.heap.size := lt_of P2
  have S2 : mS w x y a E w2 w2 := ⟨cell_of P2 rfl, cell_of P2 rfl, Lib.hid ⟨hE2, Below.refl _ _⟩⟩
  replace i2 := Lib.hid i2
  replace hL1 := Lib.hid hL1
  replace hE2 := Lib.hid hE2
  replace P2 := Lib.hid P2
  clear ho2 h2 hE1 P1 b1 hw2
  go_wp2
  refine wp_region_held_drew (S := mS w x y a E w2) (by kernel_rfl) (mS_more S2 (Below.refl _ _).drew) (fun hHeld => ?_)
  refine wpAnyH_take (i := 0) (v := ?_) rfl (by kernel_rfl) (by kernel_rfl) (by kernel_rfl) (fun _ _ _ h => h) (Or.inl ⟨by rfl, ?_⟩) (by assumption) ?_
  rotate_left
  · (intro wS hSw; (try dsimp only at hSw); go_simp; (try with_reducible rfl))
  try simp only [Act.put, List.getElem_toArray, List.getElem_cons_zero, List.setIfInBounds_toArray, List.set_cons_zero, List.set_cons_succ]
  refine wpAnyH_take (i := 1) (v := ?_) rfl (by kernel_rfl) (by kernel_rfl) (by kernel_rfl) (fun _ _ _ h => h) (Or.inl ⟨by rfl, ?_⟩) (by assumption) ?_
  rotate_left
  · (intro wS hSw; (try dsimp only at hSw); go_simp; (try with_reducible rfl))
  try simp only [Act.put, List.getElem_toArray, List.getElem_cons_succ, List.getElem_cons_zero, List.setIfInBounds_toArray, List.set_cons_zero, List.set_cons_succ]
  refine wpAnyH_take (i := 3) (v := ?_) rfl (by kernel_rfl) (by kernel_rfl) (by kernel_rfl) (fun _ _ _ h => h) (Or.inl ⟨by rfl, ?_⟩) (by assumption) ?_
  rotate_left
  · (intro wS hSw; (try dsimp only at hSw); obtain ⟨q0, q1, _⟩ := hSw; go_simp; (try with_reducible rfl))
  try simp only [Act.put, List.getElem_toArray, List.getElem_cons_succ, List.getElem_cons_zero, List.setIfInBounds_toArray, List.set_cons_zero, List.set_cons_succ]
  refine wpAnyH_ready (rs := [2, 4]) (by kernel_rfl) (by simp) ?_
  refine AllReadyH.cons rfl (fun K hK => ?_) (AllReadyH.cons rfl (fun K hK => ?_) AllReadyH.nil)
  · refine step_append_run rfl (.const (.slice none 0 0)) (.tmp 24) 22 rfl (.slice none 0 0) (.slice a E.length c) (by simp [Act.eval, Act.put]) (by simp [Act.eval, Act.put]) _ (run_append_rows _ w2.heap.size _ _ 0 [] (World.ownsRow_nil _ _ _ _) a E.length c E rfl hHeld.2.2.out.1 (by omega) hHeld.2.2.out.2.size) ?_
    rintro v1 wA ⟨hownA, hgrowA, hrowA⟩
    refine hK.out _ _ (mS_grown hHeld hgrowA (fun k e => by cases e) hPlt hE2.out) (fun hHeld => ?_)
    clear hK K
    try simp only [Act.put, List.getElem_toArray, List.getElem_cons_succ, List.getElem_cons_zero, List.setIfInBounds_toArray, List.set_cons_zero, List.set_cons_succ]
    refine wpAnyH_ready (rs := [4]) (by kernel_rfl) (by simp) ?_
    refine AllReadyH.cons rfl (fun K hK => ?_) AllReadyH.nil
    · simp only [List.getElem_toArray, List.getElem_cons_succ, List.getElem_cons_zero]
      go_simp
      refine hK.out _ _ (by first | exact mS_more hHeld ((Below.refl _ _).alloc (Nat.le_refl _) _) | exact mS_more hHeld (((Below.refl _ _).drew).alloc (Nat.le_refl _) _)) (fun hHeld => ?_)
      clear hK K
      try simp only [Act.put, List.getElem_toArray, List.getElem_cons_succ, List.getElem_cons_zero, List.setIfInBounds_toArray, List.set_cons_zero, List.set_cons_succ]
      have hown1 : _ := own_nil (hownA.alloc (.cells #[.int .i64 x, .int .i64 y] 43))
      obtain ⟨LB, hLB⟩ : ∃ LB, wA.heap.size = LB := ⟨_, rfl⟩
      have hlit : PAt (wA.alloc (.cells #[.int .i64 x, .int .i64 y] 43)) (some ⟨LB, 0, none⟩) [(x, y)] := PAt.new [(x, y)] (PWf.one hx hy) _ 43 hLB.symm
      replace hLB := Lib.hid hLB
      refine wpAnyH_ready (rs := [5]) (by kernel_rfl) (by simp) ?_
      refine AllReadyH.cons rfl (fun K hK => ?_) AllReadyH.nil
      · refine step_append_run rfl (.tmp 25) (.tmp 27) 22 rfl v1 (.slice (some ⟨LB, 0, none⟩) 1 1) (by simp [Act.eval, Act.put]) (by simp [Act.eval, Act.put, hLB.out]) _ (run_append_rows _ w2.heap.size _ v1 E.length E hown1 (some ⟨LB, 0, none⟩) 1 1 [(x, y)] rfl hlit (by omega) hHeld.2.2.out.2.size) ?_
        rintro v2 wB ⟨hownB, hgrowB, hrowB⟩
        refine hK.out _ _ (mS_grown hHeld hgrowB (fun k e => (hown1.lt k e).1) hPlt hE2.out) (fun hHeld => ?_)
        clear hK K
        try simp only [Act.put, List.getElem_toArray, List.getElem_cons_succ, List.getElem_cons_zero, List.setIfInBounds_toArray, List.set_cons_zero, List.set_cons_succ]
        have hownB2 := hownB
        rw [← pcells_append, show E.length + 1 = (E ++ [(x, y)]).length by simp] at hownB2
        obtain ⟨aB, cB, rfl, hF⟩ := PAt.own hownB2 (hEw.out.app (PWf.one hx hy))
        rw [show (E ++ [(x, y)]).length = E.length + 1 by simp] at *
        refine wpAnyH_ready (rs := [6]) (by kernel_rfl) (by simp) ?_
        refine AllReadyH.cons rfl (fun K hK => ?_) AllReadyH.nil
        · simp only [List.getElem_toArray, List.getElem_cons_succ, List.getElem_cons_zero]
          go_simp
          (go_at_call 12; refine (on_n aB (E.length + 1) cB (E ++ [(x, y)]) s _ (by simp) hF (by omega) hs).mono ?_; rintro e wC ⟨v3, l2, rfl, hL2, ho3, hw3, hll3, h3⟩)
          go_wp2_with fail
          refine hK.out _ _ (mS_more hHeld h3) (fun hHeld => ?_)
          clear hK K
          try simp only [Act.put, List.getElem_toArray, List.getElem_cons_succ, List.getElem_cons_zero, List.setIfInBounds_toArray, List.set_cons_zero, List.set_cons_succ]
          refine wpAnyH_take (i := 7) (v := ?_) rfl (by kernel_rfl) (by kernel_rfl) (by kernel_rfl) (fun _ _ _ h => h) (Or.inl ⟨by rfl, ?_⟩) (by assumption) ?_
          rotate_left
          · (intro wS hSw; (try dsimp only at hSw); go_simp; (try with_reducible rfl))
          try simp only [Act.put, List.getElem_toArray, List.getElem_cons_succ, List.getElem_cons_zero, List.setIfInBounds_toArray, List.set_cons_zero, List.set_cons_succ]
          refine wpAnyH_done (by kernel_rfl) ?_ _
          have hbC := Lib.hid (b2.out.trans ((hHeld.2.2.out.2).mono b2.out.size))
          have hEC := Lib.hid hHeld.2.2.out.1
          have hPC0 := hHeld.1
          have hPC1 := hHeld.2.1
          obtain ⟨a3, c3, rfl, i3⟩ := IAt.own ho3
          have i2C := Lib.hid (i2.out.more hHeld.2.2.out.2)
          replace i3 := Lib.hid i3
          replace hL2 := Lib.hid hL2
          have hS2 := Lib.hid (fun z (hz : z ∈ l1) => (hL2.out.mem z).2 ⟨((hL1.out.mem z).1 hz).1.mono (fun p hp => List.mem_append_left _ hp), ((hL1.out.mem z).1 hz).2.mono (fun p hp => List.mem_append_left _ hp)⟩)
          clear hHeld ho3 h3 hownA hgrowA hrowA hownB hownB2 hgrowB hrowB hF hown1 hlit hw3 S2 i2
          try clear hlit0
          have hl1 : l1.length ≤ 40 := by omega
          have hl2 : l2.length ≤ 41 := by omega
          go_wp2
          go_loopg [32, 9] (l2.length) (fun g i kv wx => ∃ j k : Nat, g + j = l2.length ∧ i = .int .i64 j ∧ kv = .int .i64 k ∧ k ≤ l1.length ∧ Aside (Sub l1 l2 j k) ∧ wx = wC)
          case atStart => exact ⟨0, 0, rfl, rfl, rfl, Nat.zero_le _, Sub.start _ _, rfl⟩
          case round =>
            obtain ⟨j, k, hg, rfl, rfl, hkl, hI, rfl⟩ := hrel
            replace hI := Lib.hid hI.out
            by_cases hlt : j < l2.length
            · obtain ⟨b5, o5, rfl, hc5⟩ := i3.out j hlt
              obtain ⟨z, hz⟩ : ∃ z, z = l2[j] := ⟨_, rfl⟩
              rw [← hz] at hc5
              have hji : (j : Int) < l2.length := by omega
              by_cases hk : k < l1.length
              · obtain ⟨b6, o6, rfl, hc6⟩ := i2C.out k hk
                obtain ⟨z2, hz2⟩ : ∃ z2, z2 = l1[k] := ⟨_, rfl⟩
                rw [← hz2] at hc6
                have hki : (k : Int) < l1.length := by omega
                have hk0 : (0 : Int) ≤ k := by omega
                by_cases e : z2 = z
                · have hN := Lib.hid (hI.out.hit hL1.out.rise hlt hk (by rw [← hz, ← hz2, e]))
                  have he : (z2 == z) = true := by rw [beq_iff_eq]; exact e
                  replace hz := Lib.hid hz
                  replace hz2 := Lib.hid hz2
                  replace e := Lib.hid e
                  go_wp2
                  go_roundg (l2.length - (j + 1))
                  case measure => omega
                  case rel => exact ⟨j + 1, k + 1, by omega, by go_num, by go_num, by omega, hN.out, rfl⟩
                · have hN := Lib.hid (hI.out.miss hL1.out.rise hL2.out.rise hS2.out hlt (fun _ h => e (by rw [hz, hz2, h])))
                  have he : (z2 == z) = false := by rw [beq_eq_false_iff_ne]; exact e
                  replace hz := Lib.hid hz
                  replace hz2 := Lib.hid hz2
                  replace e := Lib.hid e
                  go_wp2
                  go_roundg (l2.length - (j + 1))
                  case measure => omega
                  case rel => exact ⟨j + 1, k, by omega, by go_num, rfl, hkl, hN.out, rfl⟩
              · have hN := Lib.hid (hI.out.miss hL1.out.rise hL2.out.rise hS2.out hlt (fun h => absurd h hk))
                have hki : ¬ (k : Int) < l1.length := by omega
                replace hz := Lib.hid hz
                go_wp2
                go_roundg (l2.length - (j + 1))
                case measure => omega
                case rel => exact ⟨j + 1, k, by omega, by go_num, rfl, hkl, hN.out, rfl⟩
            · obtain rfl : j = l2.length := by omega
              obtain rfl := hI.out.done hS2.out
              go_wp2_with fail
              refine (any_any a c E _ hEC.out (by omega)).mono ?_
              rintro e w5 ⟨bb, rfl, hbb, h5⟩
              have hb5 := Lib.hid (hbC.out.trans (h5.mono hbC.out.size))
              rcases (show bb = false ∨ bb = true by cases bb; exact .inl rfl; exact .inr rfl) with hbe | hbe
              · subst hbe
                clear hbb h5
                go_wp2
                go_ret
                exact ⟨rfl, hb5.out⟩
              · have hcyc := Lib.hid (hbb.1 hbe)
                subst hbe
                have hE5 := Lib.hid (hEC.out.more h5)
                have hp0 := cell_more h5 hPC0
                have hp1 := cell_more h5 hPC1
                have hL5 : (w5.alloc (.cells #[.int .i64 x, .int .i64 y] 43)).ownsRow w5.heap.size 43 2 (.slice (some ⟨w5.heap.size, 0, none⟩) 1 1) 1 (pcells [(x, y)]) := ⟨rfl, .inr ⟨w5.heap.size, 1, _, rfl, Nat.le_refl _, heap_alloc_new w5 _, Nat.le_refl _, by decide, rfl, rfl⟩⟩
                have hE6 := Lib.hid (hE5.out.more ((Below.refl _ _).alloc (Nat.le_refl _) (.cells #[.int .i64 x, .int .i64 y] 43)))
                replace hL5 := Lib.hid hL5
                clear hbb h5 hPC0 hPC1
                go_wp2_with (at_builtin; refine wpList_append_run (by rfl) (.tmp 61) (.tmp 62) 22 rfl _ _ rfl rfl _ (run_append_rows _ w5.heap.size _ _ 1 [(x, y)] hL5.out a E.length c E rfl hE6.out (by omega) (by simp)) ?_; rintro v6 w6 ⟨hown6, hgrow6, hrow6⟩; have hown7 := hown6; rw [← pcells_append, show 1 + E.length = ([(x, y)] ++ E).length by simp; omega] at hown7; obtain ⟨a7, c7, rfl, hF7⟩ := PAt.own hown7 ((PWf.one hx hy).app hEw.out); have hb6 := Lib.hid ((hb5.out.alloc hb5.out.size (.cells #[.int .i64 x, .int .i64 y] 43)).grown hgrow6 (by have := hb5.out.size; simp; omega) (fun k e => by have := (hL5.out.lt k e).1; have := hb5.out.size; omega)); replace hF7 := Lib.hid hF7; clear hown6 hgrow6 hrow6 hown7)
                refine (any_any a7 c7 ([(x, y)] ++ E) _ hF7.out (by simp; omega)).mono ?_
                rintro e w7 ⟨bb, rfl, hbb, h7⟩
                obtain ⟨zc, hzc⟩ := hcyc.out
                obtain rfl := hbb.2 ⟨zc, hzc.mono (fun p hp => List.mem_append_right _ hp)⟩
                go_wp2
                go_ret
                exact ⟨rfl, hb6.out.trans (h7.mono hb6.out.size)⟩
          
  · simp only [List.getElem_toArray, List.getElem_cons_succ, List.getElem_cons_zero]
    go_simp
    refine hK.out _ _ (by first | exact mS_more hHeld ((Below.refl _ _).alloc (Nat.le_refl _) _) | exact mS_more hHeld (((Below.refl _ _).drew).alloc (Nat.le_refl _) _)) (fun hHeld => ?_)
    clear hK K
    try simp only [Act.put, List.getElem_toArray, List.getElem_cons_succ, List.getElem_cons_zero, List.setIfInBounds_toArray, List.set_cons_zero, List.set_cons_succ]
    obtain ⟨LB, hLB⟩ : ∃ LB, w2.heap.size = LB := ⟨_, rfl⟩
    have hlit0 : PAt (w2.drew.alloc (.cells #[.int .i64 x, .int .i64 y] 43)) (some ⟨LB, 0, none⟩) [(x, y)] := PAt.new [(x, y)] (PWf.one hx hy) _ 43 hLB.symm
    replace hLB := Lib.hid hLB
    refine wpAnyH_ready (rs := [2]) (by kernel_rfl) (by simp) ?_
    refine AllReadyH.cons rfl (fun K hK => ?_) AllReadyH.nil
    · refine step_append_run rfl (.const (.slice none 0 0)) (.tmp 24) 22 rfl (.slice none 0 0) (.slice a E.length c) (by simp [Act.eval, Act.put]) (by simp [Act.eval, Act.put]) _ (run_append_rows _ w2.heap.size _ _ 0 [] (World.ownsRow_nil _ _ _ _) a E.length c E rfl hHeld.2.2.out.1 (by omega) hHeld.2.2.out.2.size) ?_
      rintro v1 wA ⟨hownA, hgrowA, hrowA⟩
      refine hK.out _ _ (mS_grown hHeld hgrowA (fun k e => by cases e) hPlt hE2.out) (fun hHeld => ?_)
      clear hK K
      try simp only [Act.put, List.getElem_toArray, List.getElem_cons_succ, List.getElem_cons_zero, List.setIfInBounds_toArray, List.set_cons_zero, List.set_cons_succ]
      have hown1 := own_nil hownA
      have hlit := PAt.grown hlit0 hgrowA (fun k e => by cases e)
      refine wpAnyH_ready (rs := [5]) (by kernel_rfl) (by simp) ?_
      refine AllReadyH.cons rfl (fun K hK => ?_) AllReadyH.nil
      · refine step_append_run rfl (.tmp 25) (.tmp 27) 22 rfl v1 (.slice (some ⟨LB, 0, none⟩) 1 1) (by simp [Act.eval, Act.put]) (by simp [Act.eval, Act.put, hLB.out]) _ (run_append_rows _ w2.heap.size _ v1 E.length E hown1 (some ⟨LB, 0, none⟩) 1 1 [(x, y)] rfl hlit (by omega) hHeld.2.2.out.2.size) ?_
        rintro v2 wB ⟨hownB, hgrowB, hrowB⟩
        refine hK.out _ _ (mS_grown hHeld hgrowB (fun k e => (hown1.lt k e).1) hPlt hE2.out) (fun hHeld => ?_)
        clear hK K
        try simp only [Act.put, List.getElem_toArray, List.getElem_cons_succ, List.getElem_cons_zero, List.setIfInBounds_toArray, List.set_cons_zero, List.set_cons_succ]
        have hownB2 := hownB
        rw [← pcells_append, show E.length + 1 = (E ++ [(x, y)]).length by simp] at hownB2
        obtain ⟨aB, cB, rfl, hF⟩ := PAt.own hownB2 (hEw.out.app (PWf.one hx hy))
        rw [show (E ++ [(x, y)]).length = E.length + 1 by simp] at *
        refine wpAnyH_ready (rs := [6]) (by kernel_rfl) (by simp) ?_
        refine AllReadyH.cons rfl (fun K hK => ?_) AllReadyH.nil
        · simp only [List.getElem_toArray, List.getElem_cons_succ, List.getElem_cons_zero]
          go_simp
          (go_at_call 12; refine (on_n aB (E.length + 1) cB (E ++ [(x, y)]) s _ (by simp) hF (by omega) hs).mono ?_; rintro e wC ⟨v3, l2, rfl, hL2, ho3, hw3, hll3, h3⟩)
          go_wp2_with fail
          refine hK.out _ _ (mS_more hHeld h3) (fun hHeld => ?_)
          clear hK K
          try simp only [Act.put, List.getElem_toArray, List.getElem_cons_succ, List.getElem_cons_zero, List.setIfInBounds_toArray, List.set_cons_zero, List.set_cons_succ]
          refine wpAnyH_take (i := 7) (v := ?_) rfl (by kernel_rfl) (by kernel_rfl) (by kernel_rfl) (fun _ _ _ h => h) (Or.inl ⟨by rfl, ?_⟩) (by assumption) ?_
          rotate_left
          · (intro wS hSw; (try dsimp only at hSw); go_simp; (try with_reducible rfl))
          try simp only [Act.put, List.getElem_toArray, List.getElem_cons_succ, List.getElem_cons_zero, List.setIfInBounds_toArray, List.set_cons_zero, List.set_cons_succ]
          refine wpAnyH_done (by kernel_rfl) ?_ _
          have hbC := Lib.hid (b2.out.trans ((hHeld.2.2.out.2).mono b2.out.size))
          have hEC := Lib.hid hHeld.2.2.out.1
          have hPC0 := hHeld.1
          have hPC1 := hHeld.2.1
          obtain ⟨a3, c3, rfl, i3⟩ := IAt.own ho3
          have i2C := Lib.hid (i2.out.more hHeld.2.2.out.2)
          replace i3 := Lib.hid i3
          replace hL2 := Lib.hid hL2
          have hS2 := Lib.hid (fun z (hz : z ∈ l1) => (hL2.out.mem z).2 ⟨((hL1.out.mem z).1 hz).1.mono (fun p hp => List.mem_append_left _ hp), ((hL1.out.mem z).1 hz).2.mono (fun p hp => List.mem_append_left _ hp)⟩)
          clear hHeld ho3 h3 hownA hgrowA hrowA hownB hownB2 hgrowB hrowB hF hown1 hlit hw3 S2 i2
          try clear hlit0
          have hl1 : l1.length ≤ 40 := by omega
          have hl2 : l2.length ≤ 41 := by omega
          go_wp2
          go_loopg [32, 9] (l2.length) (fun g i kv wx => ∃ j k : Nat, g + j = l2.length ∧ i = .int .i64 j ∧ kv = .int .i64 k ∧ k ≤ l1.length ∧ Aside (Sub l1 l2 j k) ∧ wx = wC)
          case atStart => exact ⟨0, 0, rfl, rfl, rfl, Nat.zero_le _, Sub.start _ _, rfl⟩
          case round =>
            obtain ⟨j, k, hg, rfl, rfl, hkl, hI, rfl⟩ := hrel
            replace hI := Lib.hid hI.out
            by_cases hlt : j < l2.length
            · obtain ⟨b5, o5, rfl, hc5⟩ := i3.out j hlt
              obtain ⟨z, hz⟩ : ∃ z, z = l2[j] := ⟨_, rfl⟩
              rw [← hz] at hc5
              have hji : (j : Int) < l2.length := by omega
              by_cases hk : k < l1.length
              · obtain ⟨b6, o6, rfl, hc6⟩ := i2C.out k hk
                obtain ⟨z2, hz2⟩ : ∃ z2, z2 = l1[k] := ⟨_, rfl⟩
                rw [← hz2] at hc6
                have hki : (k : Int) < l1.length := by omega
                have hk0 : (0 : Int) ≤ k := by omega
                by_cases e : z2 = z
                · have hN := Lib.hid (hI.out.hit hL1.out.rise hlt hk (by rw [← hz, ← hz2, e]))
                  have he : (z2 == z) = true := by rw [beq_iff_eq]; exact e
                  replace hz := Lib.hid hz
                  replace hz2 := Lib.hid hz2
                  replace e := Lib.hid e
                  go_wp2
                  go_roundg (l2.length - (j + 1))
                  case measure => omega
                  case rel => exact ⟨j + 1, k + 1, by omega, by go_num, by go_num, by omega, hN.out, rfl⟩
                · have hN := Lib.hid (hI.out.miss hL1.out.rise hL2.out.rise hS2.out hlt (fun _ h => e (by rw [hz, hz2, h])))
                  have he : (z2 == z) = false := by rw [beq_eq_false_iff_ne]; exact e
                  replace hz := Lib.hid hz
                  replace hz2 := Lib.hid hz2
                  replace e := Lib.hid e
                  go_wp2
                  go_roundg (l2.length - (j + 1))
                  case measure => omega
                  case rel => exact ⟨j + 1, k, by omega, by go_num, rfl, hkl, hN.out, rfl⟩
              · have hN := Lib.hid (hI.out.miss hL1.out.rise hL2.out.rise hS2.out hlt (fun h => absurd h hk))
                have hki : ¬ (k : Int) < l1.length := by omega
                replace hz := Lib.hid hz
                go_wp2
                go_roundg (l2.length - (j + 1))
                case measure => omega
                case rel => exact ⟨j + 1, k, by omega, by go_num, rfl, hkl, hN.out, rfl⟩
            · obtain rfl : j = l2.length := by omega
              obtain rfl := hI.out.done hS2.out
              go_wp2_with fail
              refine (any_any a c E _ hEC.out (by omega)).mono ?_
              rintro e w5 ⟨bb, rfl, hbb, h5⟩
              have hb5 := Lib.hid (hbC.out.trans (h5.mono hbC.out.size))
              rcases (show bb = false ∨ bb = true by cases bb; exact .inl rfl; exact .inr rfl) with hbe | hbe
              · subst hbe
                clear hbb h5
                go_wp2
                go_ret
                exact ⟨rfl, hb5.out⟩
              · have hcyc := Lib.hid (hbb.1 hbe)
                subst hbe
                have hE5 := Lib.hid (hEC.out.more h5)
                have hp0 := cell_more h5 hPC0
                have hp1 := cell_more h5 hPC1
                have hL5 : (w5.alloc (.cells #[.int .i64 x, .int .i64 y] 43)).ownsRow w5.heap.size 43 2 (.slice (some ⟨w5.heap.size, 0, none⟩) 1 1) 1 (pcells [(x, y)]) := ⟨rfl, .inr ⟨w5.heap.size, 1, _, rfl, Nat.le_refl _, heap_alloc_new w5 _, Nat.le_refl _, by decide, rfl, rfl⟩⟩
                have hE6 := Lib.hid (hE5.out.more ((Below.refl _ _).alloc (Nat.le_refl _) (.cells #[.int .i64 x, .int .i64 y] 43)))
                replace hL5 := Lib.hid hL5
                clear hbb h5 hPC0 hPC1
                go_wp2_with (at_builtin; refine wpList_append_run (by rfl) (.tmp 61) (.tmp 62) 22 rfl _ _ rfl rfl _ (run_append_rows _ w5.heap.size _ _ 1 [(x, y)] hL5.out a E.length c E rfl hE6.out (by omega) (by simp)) ?_; rintro v6 w6 ⟨hown6, hgrow6, hrow6⟩; have hown7 := hown6; rw [← pcells_append, show 1 + E.length = ([(x, y)] ++ E).length by simp; omega] at hown7; obtain ⟨a7, c7, rfl, hF7⟩ := PAt.own hown7 ((PWf.one hx hy).app hEw.out); have hb6 := Lib.hid ((hb5.out.alloc hb5.out.size (.cells #[.int .i64 x, .int .i64 y] 43)).grown hgrow6 (by have := hb5.out.size; simp; omega) (fun k e => by have := (hL5.out.lt k e).1; have := hb5.out.size; omega)); replace hF7 := Lib.hid hF7; clear hown6 hgrow6 hrow6 hown7)
                refine (any_any a7 c7 ([(x, y)] ++ E) _ hF7.out (by simp; omega)).mono ?_
                rintro e w7 ⟨bb, rfl, hbb, h7⟩
                obtain ⟨zc, hzc⟩ := hcyc.out
                obtain rfl := hbb.2 ⟨zc, hzc.mono (fun p hp => List.mem_append_right _ hp)⟩
                go_wp2
                go_ret
                exact ⟨rfl, hb6.out.trans (h7.mono hb6.out.size)⟩
          
end Go.Proofs.Ytakgehcfomfmdaa
