/- The walk of the law CycleTells. No condition. -/
import Derived.Test.YtakgehcfomfmdaaCAlive
import Derived.Test.YtakgehcfomfmdaaCOpen
import Derived.Test.YtakgehcfomfmdaaCROn
import Derived.Test.YtakgehcfomfmdaaCLent
import Derived.Test.YtakgehcfomfmdaaBkBI
import Derived.Deep.LoopGhost
namespace Go.Proofs.Ytakgehcfomfmdaa
open Go.RowKit

theorem lent_chg {w w' : World} {H g n : Nat} {E : List (Int × Int)} (h : Lent w g n E) (hc : Chg (fun k => H ≤ k) w w') (hg : g < H) : Lent w' g n E := by
  have hh : w'.heap[g]? = w.heap[g]? := hc.block g (World.block_lt_of_cell? w _ h.2.2.1) (by omega)
  have hcl : ∀ o, w'.cell? ⟨g, o, none⟩ = w.cell? ⟨g, o, none⟩ := fun o => World.cell?_of_block (a := ⟨g, o, none⟩) hh
  obtain ⟨h1, h2, h3, u, h4⟩ := h
  exact ⟨fun j hj => by
    obtain ⟨b, o, e, q1, q2, q3⟩ := h1 j hj
    cases e
    exact ⟨g, 0, rfl, by rw [hcl]; exact q1, by rw [hcl]; exact q2, q3⟩, h2, by rw [hcl]; exact h3, u, by rw [hcl]; exact h4⟩
theorem last_cell {w : World} {base c : Nat} {a : Option Addr} {l t : List Int} {z : Int} (h : w.ownsRow base 3 1 (.slice a l.length c) l.length (icells l)) (hl : l = t ++ [z]) (m : Nat) : ∃ g, a = some ⟨g, 0, none⟩ ∧ (w.drewN m).cell? ⟨g, t.length, none⟩ = some (.int .i64 z) := by
  have hlen : l.length = t.length + 1 := by rw [hl]; simp
  rcases h.2 with ⟨_, e⟩ | ⟨g, cap, cur, e, _⟩
  · omega
  · simp only [Value.slice.injEq] at e
    obtain ⟨rfl, _, rfl⟩ := e
    refine ⟨g, rfl, ?_⟩
    have := h.cellAt t.length (by omega)
    have h2 : w.cell? ⟨g, t.length, none⟩ = some (.int .i64 z) := by
      rw [this, hl, icells_append, List.getElem?_append_right (by rw [icells_length]; exact Nat.le_refl _), icells_length, Nat.sub_self]
      rfl
    exact h2
set_option maxRecDepth 100000 in
set_option maxHeartbeats 6400000 in
theorem cycleTells_walk (s : Int) (v : Value) (E : List (Int × Int)) (w : World) (hs : (Lit.int .i64 s).wf = true) (hv : IsPairs w v E) :
    Calls Try.prog 3 #[.int .i64 s, v] w fun e w' => e = .returned (.bool true) ∧ Below w.heap.size w w' := by
  obtain ⟨a, c, rfl, hE, hlen⟩ := hv
  by_cases d1 : 40 < (E.length : Int)
  · go_enter Try.func3, Try.ntmps3
    go_wp2_with fail
    refine (alive_true _).mono ?_
    rintro e w2 ⟨rfl, h2⟩
    go_wp2
    go_ret
    exact ⟨rfl, h2⟩
  have hl40 : E.length ≤ 40 := by omega
  go_enter Try.func3, Try.ntmps3
  go_wp2_with fail
  refine (alive_true _).mono ?_
  rintro e w1 ⟨rfl, h1⟩
  have hE1 := Lib.hid (hE.more h1)
  have b1 := Lib.hid h1
  replace hE := Lib.hid hE
  clear h1
  go_wp2_with fail
  refine (lent_any a c E w1 hE1.out (by omega)).mono ?_
  rintro e w2 ⟨g, cap, rfl, hcap, hg, hL2, h2⟩
  have hE2 := Lib.hid (hE1.out.more h2)
  have b2 := Lib.hid (b1.out.trans (h2.mono b1.out.size))
  have hg2 : g < w2.heap.size := World.block_lt_of_cell? w2 _ hL2.2.2.1
  replace hL2 := Lib.hid hL2
  clear h2 hE1 b1
  go_wp2_with fail
  refine (on_any (some ⟨g, 0, none⟩) cap E s w2 hL2.out.1 (by omega) hs).mono ?_
  rintro e w3 ⟨v3, l, rfl, hO3, o3, hwf, hll, h3⟩
  have hE3 := Lib.hid (hE2.out.more h3)
  have hL3 := Lib.hid (hL2.out.more h3)
  have b3 := Lib.hid (b2.out.trans (h3.mono b2.out.size))
  have s23 := h3.size
  replace o3 := Lib.hid o3
  clear h3 hE2 hL2
  go_wp2_with fail
  refine (on_any (some ⟨g, 0, none⟩) cap E s w3 hL3.out.1 (by omega) hs).mono ?_
  rintro e w4 ⟨v4, l4, rfl, hO4, o4, _, _, h4⟩
  obtain rfl := hO4.uniq hO3
  clear hO4
  have hE4 := Lib.hid (hE3.out.more h4)
  have hL4 := Lib.hid (hL3.out.more h4)
  have b4 := Lib.hid (b3.out.trans (h4.mono b3.out.size))
  have s34 := h4.size
  have hlt3 := Lib.hid (fun k hk => (o3.out.lt k hk))
  have o34 := Lib.hid ((Chg.of_below (S := fun _ => False) h4).row o3.out (fun _ _ => id))
  have hlt4 := Lib.hid (fun k hk => (o4.lt k hk))
  replace o4 := Lib.hid o4
  replace hO3 := Lib.hid hO3
  have s02 := b2.out.size
  clear h4 hE3 hL3 o3 b3 b2
  obtain ⟨a3, m3, c3, rfl, e3⟩ := own_form o34.out
  obtain ⟨a4, m4, c4, rfl, e4⟩ := own_form o4.out
  subst e3 e4
  obtain ⟨w5, hw5⟩ : ∃ w5, w5 = w4.alloc (.cells bk18 38) := ⟨_, rfl⟩
  have hK5 : Bks (fun _ => False) w5 w4.heap.size w.heap.size [] := by rw [hw5]; exact Bks.start w4 _
  have o35 : w5.ownsRow w.heap.size 3 1 (.slice a3 l4.length c3) l4.length (icells l4) := by rw [hw5]; exact (o34.out.alloc _).mono (by omega)
  have o45 : w5.ownsRow w.heap.size 3 1 (.slice a4 l4.length c4) l4.length (icells l4) := by rw [hw5]; exact (o4.out.alloc _).mono (by omega)
  have b5 : Below w.heap.size w w5 := by rw [hw5]; exact b4.out.alloc (by have := b4.out.size; omega) _
  have hL5 : Lent w5 g E.length E := by rw [hw5]; exact hL4.out.more ((Below.refl _ _).alloc (Nat.le_refl _) _)
  have s45 : w5.heap.size = w4.heap.size + 1 := by rw [hw5]; simp
  have hE0 := hE4
  unfold bk18 at hw5
  clear hE4 hL4 b4 o34 o4
  replace hK5 := Lib.hid hK5
  replace o35 := Lib.hid o35
  replace o45 := Lib.hid o45
  replace b5 := Lib.hid b5
  replace hL5 := Lib.hid hL5
  have hgl : g < w5.heap.size := World.block_lt_of_cell? w5 _ hL5.out.2.2.1
  go_wp2_with fail
  rw [← hw5]
  replace hw5 := Lib.hid hw5
  refine (hK5.out.keep o35.out (fun k hk => ⟨id, by have := hlt3.out k hk; omega⟩) (icells_length l4) (icells_one l4) (by omega) (by simp)).mono ?_
  rintro e w6 ⟨rfl, hK6, c6⟩
  have o46 := Lib.hid (c6.row o45.out (fun k hk e => by have := hlt4.out k hk; rcases e with e | e <;> omega))
  have c6w : Chg (fun k => w2.heap.size ≤ k) w5 w6 := c6.mono (fun k _ e => by
    rcases e with e | e
    · omega
    · exact e.elim)
  have s56 := c6.size
  replace hK6 := Lib.hid hK6
  clear c6 hK5 o35 o45
  go_wp2_with fail
  refine (hK6.out.keep o46.out (fun k hk => ⟨fun e => by have := hlt4.out k hk; rcases e with e | e | e <;> first | exact e.elim | (have := hlt3.out k e; omega) | omega, by have := hlt4.out k hk; omega⟩) (icells_length l4) (icells_one l4) (by omega) (by simp)).mono ?_
  rintro e w7 ⟨rfl, hK7, c7⟩
  have c57 : Chg (fun k => w2.heap.size ≤ k) w5 w7 := c6w.trans (c7.mono (fun k _ e => by rcases e with e | e | e | e <;> first | omega | exact e.elim | (have := hlt3.out k e; omega))) (fun _ _ h => h)
  have b7 := Lib.hid (b5.out.trans (c57.below (fun k _ e => by omega) (by omega)))
  have hL7 : Lent w7 g E.length E := lent_chg hL5.out c57 (by omega)
  have hE7 := Lib.hid (hE.out.more b7.out)
  have s57 := c57.size
  have hK8 : Bks (fun k => w.heap.size ≤ k) w7 w4.heap.size w.heap.size [⟨.slice a3 l4.length c3, l4.length, icells l4⟩, ⟨.slice a4 l4.length c4, l4.length, icells l4⟩] := hK7.wide (fun k e => by
    rcases e with (e | e | e) | e | e
    · exact e.elim
    · have := hlt3.out k e; omega
    · omega
    · have := hlt4.out k e; omega
    · omega)
  replace hL7 := Lib.hid hL7
  replace hK8 := Lib.hid hK8
  clear c6w c7 c57 hK6 hK7 o46 hL5 b5 hE0
  go_wp2_with fail
  refine (ron_any a c E s w7 hE7.out (by omega) hs).mono ?_
  rintro e w8 ⟨v8, l8, rfl, hO8, o8, hl8, h8⟩
  obtain rfl := hO8.uniq hO3.out
  clear hO8
  have b8 := Lib.hid (b7.out.trans (h8.mono b7.out.size))
  have hL8 := Lib.hid (hL7.out.more h8)
  have hE8 := Lib.hid (hE.out.more b8.out)
  have hK9 := Lib.hid (hK8.out.more h8)
  replace o8 := Lib.hid o8
  clear h8 hL7 hE7 hK8 b7
  obtain ⟨a8, m8, c8, rfl, e8⟩ := own_form o8.out
  subst e8
  go_wp2_with fail
  refine (victim_any (some ⟨g, 0, none⟩) cap E s w8 hL8.out.1 (by omega) hs).mono ?_
  rintro e w9 ⟨l9, hO9, rfl, h9⟩
  obtain rfl := hO9.uniq hO3.out
  clear hO9
  have b9 := Lib.hid (b8.out.trans (h9.mono b8.out.size))
  have hL9 := Lib.hid (hL8.out.more h9)
  have hE9 := Lib.hid (hE.out.more b9.out)
  have hK10 := Lib.hid (hK9.out.more h9)
  have o9 := Lib.hid ((Chg.of_below (S := fun _ => False) h9).row o8.out (fun _ _ => id))
  clear h9 hL8 hE8 hK9 b8 o8
  obtain ⟨va, ok, hvic⟩ : ∃ (va : Int) (ok : Bool), vicV l9 = .tuple #[.int .i64 va, .bool ok] ∧ (ok = true ↔ l9 ≠ []) ∧ (ok = false → va = 0) ∧ (∀ t z, l9 = t ++ [z] → va = z) := by
    unfold vicV
    by_cases hne : l9 = []
    · rw [if_pos hne]
      exact ⟨0, false, rfl, ⟨fun h => (by cases h), fun h => absurd hne h⟩, fun _ => rfl, fun t z e => by rw [hne] at e; simp at e⟩
    · rw [if_neg hne]
      exact ⟨_, true, rfl, ⟨fun _ => hne, fun _ => rfl⟩, fun h => (by cases h), fun t z e => by rw [e]; simp⟩
  rw [hvic.1]
  replace hvic := Lib.hid hvic.2
  go_wp2
  go_loopg [50, 12, 14] E.length (fun gg i vb _ wr => ∃ (k : Nat) (bI : Bool), gg + k = E.length ∧ i = .int .i64 k ∧ vb = .bool bI ∧ Aside ((bI = true ↔ ∃ p ∈ E.take k, Rt E p.1 p.1) ∧ Below w9.heap.size w9 wr))
  case atStart => exact ⟨0, false, rfl, rfl, rfl, by simp, Below.refl _ _⟩
  case round =>
    obtain ⟨k, bI, hgk, rfl, rfl, hA⟩ := hrel
    obtain ⟨hbI, hbr⟩ := hA.out
    by_cases hlt : k < E.length
    · have hbw := Lib.hid (b9.out.trans (hbr.mono b9.out.size))
      obtain ⟨bE, oE, e0, q1, q2, q3, q4⟩ := hE.out.more hbw.out k hlt
      subst e0
      obtain ⟨p1, hp1⟩ : ∃ p1, p1 = E[k].1 := ⟨_, rfl⟩
      obtain ⟨p2, hp2⟩ : ∃ p2, p2 = E[k].2 := ⟨_, rfl⟩
      have htk : ∀ P : Int × Int → Prop, (∃ p ∈ E.take (k + 1), P p) ↔ (∃ p ∈ E.take k, P p) ∨ P (p1, p2) := fun P => by
        rw [List.take_succ_eq_append_getElem hlt, hp1, hp2]
        constructor
        · rintro ⟨p, hp, hP⟩
          rcases List.mem_append.1 hp with h | h
          · exact .inl ⟨p, h, hP⟩
          · rw [List.mem_singleton.1 h] at hP; exact .inr hP
        · rintro (⟨p, hp, hP⟩ | hP)
          · exact ⟨p, List.mem_append_left _ hp, hP⟩
          · exact ⟨_, List.mem_append_right _ (List.mem_singleton.2 rfl), hP⟩
      rw [← hp1] at q1 q3
      rw [← hp2] at q2
      have hki : (k : Int) < E.length := by omega
      replace htk := Lib.hid htk
      clear hp1 hp2 q4
      cases bI with
      | true =>
        have hJ : (true = true ↔ ∃ p ∈ E.take (k + 1), Rt E p.1 p.1) := ⟨fun _ => (htk.out _).2 (.inl (hbI.1 rfl)), fun _ => rfl⟩
        replace hJ := Lib.hid hJ
        replace hbr := Lib.hid hbr
        clear hA hbI
        go_wp2
        go_roundg (E.length - (k + 1))
        case measure => omega
        case rel => exact ⟨k + 1, true, by omega, by go_num, rfl, by have := hJ.out; simpa using this, hbr.out.alloc (by have := hbr.out.size; omega) _⟩
      | false =>
        have hno : ¬ ∃ p ∈ E.take k, Rt E p.1 p.1 := fun h => by have := hbI.2 h; cases this
        replace hno := Lib.hid hno
        have hbr2 := Lib.hid hbr
        clear hA hbI hbr
        go_wp2_with fail
        refine (ron_any _ c E p1 _ (hE.out.more ((hbw.out.alloc (by have := hbw.out.size; omega) _))) (by omega) q3).mono ?_
        rintro e wq ⟨vq, lq, rfl, hOq, oq, _, hq⟩
        have hbq := Lib.hid ((hbr2.out.alloc (by have := hbr2.out.size; omega) (.cells #[.int .i64 p1, .int .i64 p2] 43)).trans (hq.mono (by have := hbr2.out.size; simp; omega)))
        obtain ⟨aq, mq, cq, rfl, eq⟩ := own_form oq
        subst eq
        obtain ⟨bJ, hbJ⟩ : ∃ bJ : Bool, bJ = decide (0 < (lq.length : Int)) := ⟨_, rfl⟩
        have hJ : (bJ = true ↔ ∃ p ∈ E.take (k + 1), Rt E p.1 p.1) := by
          rw [htk.out, ← (onl_some hOq), hbJ, decide_eq_true_eq]
          constructor
          · intro h
            exact .inr (fun e => by rw [e] at h; simp at h)
          · rintro (h | h)
            · exact absurd h hno.out
            · have := List.length_pos_iff.2 h; omega
        replace hJ := Lib.hid hJ
        replace hbJ := Lib.hid hbJ
        clear hOq oq hq
        go_wp2
        go_roundg (E.length - (k + 1))
        case measure => omega
        case rel => exact ⟨k + 1, bJ, by omega, by go_num, by rw [hbJ.out]; simp, hJ.out, hbq.out⟩
    · obtain rfl : k = E.length := by omega
      rw [List.take_length] at hbI
      have bA := Lib.hid (b9.out.trans (hbr.mono b9.out.size))
      have hLr := Lib.hid (hL9.out.more hbr)
      have hKr := Lib.hid (hK10.out.more hbr)
      have oR := Lib.hid ((Chg.of_below (S := fun _ => False) hbr).row o9.out (fun _ _ => id))
      have hEr := Lib.hid (hE.out.more bA.out)
      have hany : bI = true ↔ ∃ x, Rt E x x := by
        rw [hbI]
        constructor
        · rintro ⟨p, _, h⟩; exact ⟨_, h⟩
        · rintro ⟨x, h⟩
          obtain ⟨p, hp, e⟩ := List.mem_map.1 (rt_source h)
          exact ⟨p, hp, by rw [e]; exact h⟩
      replace hany := Lib.hid hany
      have r3 := Lib.hid (RdAt.own (hKr.out.row 0 (by simp)))
      have r8 := Lib.hid (RdAt.own oR.out)
      have hsz := bA.out.size
      clear hA hbI hbr hL9 hK10 o9 b9 hE9
      have hl9m : l9.length ≤ 1000000 := by omega
      go_wp2_with fail
      refine (bkI_same (.slice a3 l9.length c3) (.slice a8 l9.length c8) l9.length (icells l9) wr r3.out r8.out (icells_length l9) (icells_all l9) (by omega)).mono ?_
      rintro e w10 ⟨rfl, m10, hw10⟩
      have hb10 : Below wr.heap.size wr w10 := by rw [hw10]; exact bk_drewN (Below.refl _ _) _
      obtain ⟨n, hn⟩ : ∃ n, n = l9.length := ⟨_, rfl⟩
      rcases l9.eq_nil_or_concat with h0 | ⟨t, z, h0⟩
      · obtain ⟨k1, k2, _⟩ := hvic.out
        have hok : ok = false := by cases ok with | true => exact absurd h0 (k1.1 rfl) | false => rfl
        obtain rfl := k2 hok
        subst hok
        have hn0 : n = 0 := by rw [hn, h0]; rfl
        rw [← hn]
        subst hn0
        replace hb10 := Lib.hid hb10
        replace hn := Lib.hid hn
        clear hw10 h0 k1 k2
        all_goals
          go_wp2_with fail
          refine (any_any (some ⟨g, 0, none⟩) cap E w10 (hLr.out.more hb10.out).1 (by omega)).mono ?_
          rintro e w11 ⟨bA2, rfl, hbA, h11⟩
          have hbb : bI = bA2 := by rw [Bool.eq_iff_iff]; exact hany.out.trans hbA.symm
          subst hbb
          have hb11 := Lib.hid (hb10.out.trans (h11.mono hb10.out.size))
          clear h11 hbA hb10
          go_wp2_with fail
          refine (stays_any g cap a c E w11 (hLr.out.more hb11.out) hcap (hE.out.more (bA.out.trans (hb11.out.mono bA.out.size))) (by omega)).mono ?_
          rintro e w12 ⟨rfl, h12⟩
          have hb12 := Lib.hid (hb11.out.trans (h12.mono hb11.out.size))
          have hK12 := Lib.hid (hKr.out.more hb12.out)
          have bA12 := Lib.hid (bA.out.trans (hb12.out.mono bA.out.size))
          clear h12 hb11 hb12
          go_wp2_with fail
          refine (hK12.out.apart (by simp) (fun l hl => by simp at hl; rcases hl with rfl | rfl <;> exact ⟨icells_length _, icells_all _, by omega⟩) bA12.out.size).mono ?_
          rintro e w13 ⟨rfl, h13⟩
          have hfin := Lib.hid (bA12.out.trans (h13.below (fun k _ h => h) bA12.out.size))
          clear h13
          go_wp2
          go_ret
          exact ⟨rfl, hfin.out⟩
      · rw [List.concat_eq_append] at h0
        obtain ⟨k1, _, k3⟩ := hvic.out
        have hok : ok = true := k1.2 (by rw [h0]; simp)
        obtain rfl := k3 t z h0
        subst hok
        have hnt : n = t.length + 1 := by rw [hn, h0]; simp
        have hcz := last_cell oR.out h0 m10
        rw [← hw10] at hcz
        obtain ⟨g8, rfl, hcz⟩ := hcz
        have hn1 : (n : Int) - 1 = t.length := by omega
        have htl : (t.length : Int) < n := by omega
        have hn0 : 0 < n := by omega
        have hn6 : n ≤ 1000000 := by omega
        have ht6 : t.length ≤ 1000000 := by omega
        replace hnt := Lib.hid hnt
        rw [← hn]
        replace hb10 := Lib.hid hb10
        replace hn := Lib.hid hn
        clear hw10 h0 k1 k3
        all_goals
          go_wp2_with fail
          refine (any_any (some ⟨g, 0, none⟩) cap E w10 (hLr.out.more hb10.out).1 (by omega)).mono ?_
          rintro e w11 ⟨bA2, rfl, hbA, h11⟩
          have hbb : bI = bA2 := by rw [Bool.eq_iff_iff]; exact hany.out.trans hbA.symm
          subst hbb
          have hb11 := Lib.hid (hb10.out.trans (h11.mono hb10.out.size))
          clear h11 hbA hb10
          go_wp2_with fail
          refine (stays_any g cap a c E w11 (hLr.out.more hb11.out) hcap (hE.out.more (bA.out.trans (hb11.out.mono bA.out.size))) (by omega)).mono ?_
          rintro e w12 ⟨rfl, h12⟩
          have hb12 := Lib.hid (hb11.out.trans (h12.mono hb11.out.size))
          have hK12 := Lib.hid (hKr.out.more hb12.out)
          have bA12 := Lib.hid (bA.out.trans (hb12.out.mono bA.out.size))
          clear h12 hb11 hb12
          go_wp2_with fail
          refine (hK12.out.apart (by simp) (fun l hl => by simp at hl; rcases hl with rfl | rfl <;> exact ⟨icells_length _, icells_all _, by omega⟩) bA12.out.size).mono ?_
          rintro e w13 ⟨rfl, h13⟩
          have hfin := Lib.hid (bA12.out.trans (h13.below (fun k _ h => h) bA12.out.size))
          clear h13
          go_wp2
          go_ret
          exact ⟨rfl, hfin.out⟩
end Go.Proofs.Ytakgehcfomfmdaa
