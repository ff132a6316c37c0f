/- The walk of the law CycleRing. No condition. -/
import Derived.Test.YtakgehcfomfmdaaCPRow
import Derived.Deep.RegionHeld3
import Derived.Deep.DrawnRows
namespace Go.Proofs.Ytakgehcfomfmdaa
open Go.RowKit

def ring (N m : Nat) : List (Int × Int) := (List.range m).map fun (k : Nat) => ((k : Int), (((k + 1) % N : Nat) : Int))
theorem ring_len (N m : Nat) : (ring N m).length = m := by simp [ring]
theorem ring_mem {N m : Nat} {p : Int × Int} : p ∈ ring N m ↔ ∃ k, k < m ∧ p = ((k : Int), (((k + 1) % N : Nat) : Int)) := by
  simp only [ring, List.mem_map, List.mem_range]
  constructor
  · rintro ⟨k, h, rfl⟩; exact ⟨k, h, rfl⟩
  · rintro ⟨k, h, rfl⟩; exact ⟨k, h, rfl⟩
theorem ring_reach {N : Nat} (hN : 0 < N) {a : Nat} (ha : a < N) : ∀ d : Nat, Rt (ring N N) a (((a + d + 1) % N : Nat) : Int)
  | 0 => .one (ring_mem.2 ⟨a, ha, rfl⟩)
  | d + 1 => by
    refine .more (ring_reach hN ha d) (ring_mem.2 ⟨(a + d + 1) % N, Nat.mod_lt _ hN, ?_⟩)
    rw [Nat.mod_add_mod]
    rfl
theorem ring_all {N a b : Nat} (ha : a < N) (hb : b < N) : Rt (ring N N) a b := by
  have h := ring_reach (by omega) ha (b + N - 1 - a)
  rw [show a + (b + N - 1 - a) + 1 = b + N by omega, Nat.add_mod_right, Nat.mod_eq_of_lt hb] at h
  exact h
theorem ring_on {N k : Nat} (hk : k < N) : OnL (ring N N) k ((List.range N).map Int.ofNat) := by
  refine ⟨?_, fun x => ⟨fun h => ?_, fun ⟨h, _⟩ => ?_⟩⟩
  · rw [List.pairwise_map]
    exact List.pairwise_lt_range.imp (fun h => by simpa using h)
  · obtain ⟨j, hj, rfl⟩ := List.mem_map.1 h
    have hj' := List.mem_range.1 hj
    exact ⟨ring_all hk hj', ring_all hj' hk⟩
  · obtain ⟨p, hp, rfl⟩ := List.mem_map.1 (rt_target h)
    obtain ⟨j, hj, rfl⟩ := ring_mem.1 hp
    exact List.mem_map.2 ⟨(j + 1) % N, List.mem_range.2 (Nat.mod_lt _ (by omega)), rfl⟩
theorem ring_vic {N : Nat} (hN : 0 < N) : vicV ((List.range N).map Int.ofNat) = .tuple #[.int .i64 ((N : Int) - 1), .bool true] := by
  obtain ⟨M, rfl⟩ := Nat.exists_eq_succ_of_ne_zero (show N ≠ 0 by omega)
  rw [vicV, if_neg (by simp), List.range_succ, List.map_append]
  simp
/-- One pair less. -/
def broken (N i : Nat) : List (Int × Int) := (ring N N).take i ++ (ring N N).drop (i + 1)
theorem broken_mem {N i : Nat} {p : Int × Int} (h : p ∈ broken N i) : ∃ k, k < N ∧ k ≠ i ∧ p = ((k : Int), (((k + 1) % N : Nat) : Int)) := by
  rcases List.mem_append.1 h with h | h
  · obtain ⟨j, hj, e⟩ := List.getElem_of_mem h
    have hj' := hj
    rw [List.length_take, ring_len] at hj'
    refine ⟨j, by omega, by omega, ?_⟩
    rw [← e]
    simp [ring]
  · obtain ⟨j, hj, e⟩ := List.getElem_of_mem h
    have hj' := hj
    rw [List.length_drop, ring_len] at hj'
    refine ⟨i + 1 + j, by omega, by omega, ?_⟩
    rw [← e]
    simp [ring]
def rank (N i : Nat) (x : Int) : Int := if x ≤ i then x + N else x
theorem broken_up {N i : Nat} (hi : i < N) {a b : Int} (h : Rt (broken N i) a b) : rank N i a < rank N i b := by
  have h1 : ∀ x y, (x, y) ∈ broken N i → rank N i x < rank N i y := by
    intro x y hxy
    obtain ⟨k, hk, hne, e⟩ := broken_mem hxy
    simp only [Prod.mk.injEq] at e
    obtain ⟨rfl, rfl⟩ := e
    rcases Nat.lt_or_ge (k + 1) N with hl | hl
    · rw [Nat.mod_eq_of_lt hl, rank, rank]
      split <;> split <;> omega
    · have : k + 1 = N := by omega
      rw [this, Nat.mod_self, rank, rank]
      split <;> split <;> omega
  induction h with
  | one h2 => exact h1 _ _ h2
  | more _ h3 ih => have := h1 _ _ h3; omega
theorem broken_no {N i : Nat} (hi : i < N) (x : Int) : ¬ Rt (broken N i) x x := fun h => by have := broken_up hi h; omega
theorem wf_small {x : Int} (h0 : 0 ≤ x) (h1 : x ≤ 1000) : (Lit.int .i64 x).wf = true := WalkArith.wf_i64 (by omega)
theorem ring_wf {N m : Nat} (hN : 0 < N) (hN2 : N ≤ 20) (hm : m ≤ N) : PWf (ring N m) := fun p hp => by
  obtain ⟨k, hk, rfl⟩ := ring_mem.1 hp
  have := Nat.mod_lt (k + 1) hN
  exact ⟨wf_small (Int.natCast_nonneg _) (by omega), wf_small (Int.natCast_nonneg _) (by omega)⟩
theorem broken_wf {N i : Nat} (hN : 0 < N) (hN2 : N ≤ 20) : PWf (broken N i) := fun p hp => by
  obtain ⟨k, hk, _, rfl⟩ := broken_mem hp
  exact ring_wf hN hN2 (Nat.le_refl _) _ (ring_mem.2 ⟨k, hk, rfl⟩)
/-- The cells of pairs from a block's beginning on. -/
def FC (g : Nat) (F : List (Int × Int)) (n : Nat) (w : World) : Prop := g < w.heap.size ∧ ∀ m, m < n → w.cell? ⟨g, m, none⟩ = (pcells F)[m]?
theorem pcells_drop : ∀ (E : List (Int × Int)) (j : Nat), (pcells E).drop (j * 2) = pcells (E.drop j)
  | [], j => by simp [pcells]
  | E, 0 => by simp
  | p :: E, j + 1 => by
    rw [show (j + 1) * 2 = j * 2 + 1 + 1 by omega]
    exact pcells_drop E j
theorem FC.drew {g n : Nat} {F : List (Int × Int)} {w : World} (h : FC g F n w) : FC g F n w.drew := h
theorem FC.grown {g n : Nat} {F : List (Int × Int)} {w w' : World} {row : Option Nat} (h : FC g F n w) (hg : w.grownBy w' row) (hr : ∀ k, row = some k → k ≠ g) : FC g F n w' :=
  ⟨Nat.lt_of_lt_of_le h.1 hg.size, fun m hm => (World.cell?_of_block (w := w) (hg.block g h.1 (fun e => hr g e.symm rfl))).trans (h.2 m hm)⟩
theorem FC.more {g n : Nat} {F : List (Int × Int)} {w w' : World} (h : FC g F n w) (hb : Below w.heap.size w w') : FC g F n w' :=
  ⟨Nat.lt_of_lt_of_le h.1 hb.size, fun m hm => (World.cell?_of_block (w := w) (hb.block g h.1)).trans (h.2 m hm)⟩
theorem FC.news {g n o : Nat} {F G : List (Int × Int)} {w : World} (h : FC g F n w) (hn : o + (pcells G).length ≤ n) (R : List (Int × Int)) (he : (pcells F).drop o = pcells G ++ pcells R) : ∀ j u, (pcells G)[j]? = some u → w.cell? (Addr.add ⟨g, o, none⟩ j) = some u := by
  intro j u hj
  have hj' := (List.getElem?_eq_some_iff.1 hj).1
  rw [Addr.add_lit, h.2 _ (by omega), ← List.getElem?_drop, he, List.getElem?_append_left hj']
  exact hj
set_option maxRecDepth 100000 in
set_option maxHeartbeats 1600000 in
theorem cycleRing_walk (n t : Int) (w : World) (hn : (Lit.int .i64 n).wf = true) (ht : (Lit.int .i64 t).wf = true) :
    Calls Try.prog 5 #[.int .i64 n, .int .i64 t] w fun e w' => e = .returned (.bool true) ∧ Below w.heap.size w w' := by
  by_cases d0 : n < 1
  · go_enter Try.func5, Try.ntmps5
    go_wp2_with fail
    refine (alive_true _).mono ?_
    rintro e w2 ⟨rfl, h2⟩
    go_wp2
    go_ret
    exact ⟨rfl, h2⟩
  by_cases d1 : 20 < n
  · go_enter Try.func5, Try.ntmps5
    go_wp2_with fail
    refine (alive_true _).mono ?_
    rintro e w2 ⟨rfl, h2⟩
    go_wp2
    go_ret
    exact ⟨rfl, h2⟩
  obtain ⟨ii, hi0, hz0, hz1, hz2⟩ := info_parts infoPair
  obtain ⟨N, rfl⟩ := Int.eq_ofNat_of_zero_le (show 0 ≤ n by omega)
  have hN : 0 < N := by omega
  have hN2 : N ≤ 20 := by omega
  go_enter Try.func5, Try.ntmps5
  go_wp2_with fail
  refine (alive_true _).mono ?_
  rintro e w1 ⟨rfl, h1⟩
  have b1 := Lib.hid h1
  clear h1
  go_wp2
  go_loopg [6, 5] N (fun g i v wr => ∃ k : Nat, g + k = N ∧ i = .int .i64 k ∧ Aside (wr.ownsRow w.heap.size 43 2 v (ring N k).length (pcells (ring N k)) ∧ Below w.heap.size w wr))
  case atStart => exact ⟨0, rfl, rfl, World.ownsRow_nil _ _ _ _, b1.out⟩
  case round =>
    obtain ⟨k, hg, rfl, hA⟩ := hrel
    by_cases hlt : k < N
    · obtain ⟨ho, hb⟩ := hA.out
      obtain ⟨r, hr⟩ : ∃ r : Int, ((k : Int) + 1) % (N : Int) = r := ⟨_, rfl⟩
      have hn : ring N (k + 1) = ring N k ++ [((k : Int), r)] := by
        rw [ring, List.range_succ, List.map_append, ring, ← hr]
        simp
      have hbs := hb.size
      have hnl : (ring N k).length ≤ 20 := by rw [ring_len]; omega
      replace hb := Lib.hid hb
      replace ho := Lib.hid ho
      replace hn := Lib.hid hn
      clear hA b1
      go_wp2_with (at_builtin; refine wpList_append_own' rfl (.tmp 28) (.tmp 35) 22 rfl w.heap.size 43 ii (.agg #[.int .i64 0, .int .i64 0]) 2 16 Try.underlying22 hi0 hz0 hz1 hz2 rfl (by decide) _ _ _ rfl (ho.out.alloc _) ⟨wr.heap.size, 0, none⟩ 1 1 (pcells [((k : Int), r)]) rfl rfl (new_pair _ rfl) (pcells_one _) (by unfold maxLen; omega) (by omega) (by simp; omega) ?_; intro v' w3 hown' hgrow hrow; have HB := Lib.hid ((hb.out.alloc hbs (.cells #[.int .i64 k, .int .i64 r] 43)).grown hgrow (by simp; omega) (fun k e => (ho.out.lt k e).1)); have HO := Lib.hid hown'; clear hown' hgrow hrow)
      go_roundg (N - (k + 1))
      case measure => omega
      case rel => exact ⟨k + 1, by omega, by go_num, by rw [hn.out, pcells_append, List.length_append]; exact HO.out, HB.out⟩
    · obtain rfl : k = N := by omega
      obtain ⟨ho, hb⟩ := hA.out
      rcases ho.2 with ⟨e1, e2⟩ | ⟨g5, c5, cur5, rfl, hg5, hh5, hn5, hm5, hz5, ht5⟩
      · rw [ring_len] at e2; omega
      obtain ⟨a5, c5', e5, hF⟩ := PAt.own ho (ring_wf hN hN2 (Nat.le_refl _))
      injection e5 with e51 e52 e53
      subst e51 e53
      obtain ⟨F, hFe⟩ : ∃ F, F = ring k k := ⟨_, rfl⟩
      rw [ring_len] at hn5 ⊢
      have hFl : F.length = k := by rw [hFe, ring_len]
      rw [← hFe] at hF ht5
      have hcell : ∀ j, j < k * 2 → wr.cell? ⟨g5, j, none⟩ = (pcells F)[j]? := fun j hj => by
        have := ho.cellAt (g := g5) (j := j) (by rw [ring_len]; omega)
        rw [← hFe] at this
        exact this
      have hFC0 : Hid (FC g5 F (k * 2) wr) := Lib.hid ⟨lt_of hh5, hcell⟩
      have hFC0 : Hid (FC g5 F (k * 2) wr) := Lib.hid ⟨lt_of hh5, hcell⟩
      have hFC0 : Hid (FC g5 F (k * 2) wr) := Lib.hid ⟨lt_of hh5, hcell⟩
      have hFC0 : Hid (FC g5 F (k * 2) wr) := Lib.hid ⟨lt_of hh5, hcell⟩
      have hFC0 : Hid (FC g5 F (k * 2) wr) := Lib.hid ⟨lt_of hh5, hcell⟩
      have hFC0 : Hid (FC g5 F (k * 2) wr) := Lib.hid ⟨lt_of hh5, hcell⟩
      have hb0 := Lib.hid hb
      replace hF := Lib.hid hF
      replace hcell := Lib.hid hcell
      clear hA ho hb b1 hz5 ht5 e52
      unfold maxLen at hm5
      have hvic := Lib.hid (ring_vic hN)
      have hons := fun j (hj : j < k) => ring_on (N := k) hj
      rw [← hFe] at hons
      replace hons := Lib.hid hons
      replace hFl := Lib.hid hFl
      replace hFe := Lib.hid hFe
      go_wp2
      go_loopg [7] k (fun g i wx => ∃ j : Nat, g + j = k ∧ i = .int .i64 j ∧ Below wr.heap.size wr wx)
      case atStart => exact ⟨0, rfl, rfl, Below.refl _ _⟩
      case round =>
        obtain ⟨j, hg, rfl, hb⟩ := hrel
        by_cases hlt : j < k
        · have hF1 := hF.out.more hb
          have hjw : (Lit.int .i64 (j : Int)).wf = true := wf_small (Int.natCast_nonneg _) (by omega)
          have hon := Lib.hid (hons.out j hlt)
          replace hb := Lib.hid hb
          go_wp2_with fail
          refine (victim_n _ k c5 F j _ hFl.out hF1 (by omega) hjw).mono ?_
          rintro e w3 ⟨l3, hL, rfl, h3⟩
          obtain rfl := hL.uniq hon.out
          rw [hvic.out]
          have hF3 := Lib.hid (hF1.more h3)
          have hb3 := Lib.hid (hb.out.trans (h3.mono hb.out.size))
          clear h3 hb hF1 hL
          go_wp2_with fail
          refine (on_n _ k c5 F j _ hFl.out hF3.out (by omega) hjw).mono ?_
          rintro e w5 ⟨v5, l5, rfl, hL, ho5, _, _, h5⟩
          obtain rfl := hL.uniq hon.out
          obtain ⟨a6, c6, rfl, _⟩ := IAt.own ho5
          have hl5 : ((List.range k).map Int.ofNat).length = k := by simp
          rw [hl5]
          have hb5 := Lib.hid (hb3.out.trans (h5.mono hb3.out.size))
          clear hL ho5 h5 hb3 hF3
          go_wp2
          go_roundg (k - (j + 1))
          case measure => omega
          case rel => exact ⟨j + 1, by omega, by go_num, hb5.out⟩
        · obtain rfl : j = k := by omega
          have hF2 := Lib.hid (hF.out.more hb)
          have hb2 := Lib.hid (hb0.out.trans (hb.mono hb0.out.size))
          obtain ⟨q, hq⟩ : ∃ q, t.tmod (j : Int) = q := ⟨_, rfl⟩
          have hq1 : -(j : Int) < q := by have := Int.lt_tmod_of_pos t (show (0 : Int) < (j : Int) by omega); omega
          have hq2 : q < (j : Int) := by have := Int.tmod_lt_of_pos t (show (0 : Int) < (j : Int) by omega); omega
          obtain ⟨i, hi⟩ : ∃ i : Nat, (q + j) % (j : Int) = (i : Int) := ⟨((q + j) % (j : Int)).toNat, by rw [Int.toNat_of_nonneg (Int.emod_nonneg _ (by omega))]⟩
          have hij : i < j := by have := Int.emod_lt_of_pos (q + j) (show (0 : Int) < (j : Int) by omega); omega
          have hic : (i : Int) ≤ c5 := by omega
          have hi1c : (i : Int) + 1 ≤ c5 := by omega
          have hi1j : (i : Int) + 1 ≤ j := by omega
          clear hF hb0 hcell
          go_wp2
          have hj20 : j ≤ 20 := hN2
          have hFC := hFC0.out.more hb
          obtain ⟨o2, ho2⟩ : ∃ o2, o2 = if c5 = i + 1 then 0 else (i + 1) * 2 := ⟨_, rfl⟩
          have hif : (if c5 = i + 1 then some (⟨g5, 0, none⟩ : Addr) else some ⟨g5, (i + 1) * 2, none⟩) = some ⟨g5, o2, none⟩ := by rw [ho2]; split <;> rfl
          have hwi : IntKind.i64.wrap ((i : Int) + 1) = (i : Int) + 1 := IntWalk.i64_in _ (by omega)
          have htn : ((i : Int) + 1).toNat = i + 1 := by omega
          have h0i : (0 : Int) ≤ (i : Int) + 1 := by omega
          have hn2 : ∀ w', FC g5 F (j * 2) w' → ∀ jj u, (pcells (F.drop (i + 1)))[jj]? = some u → w'.cell? (Addr.add ⟨g5, o2, none⟩ jj) = some u := by
            intro w' hw'
            by_cases hc : c5 = i + 1
            · have hd : F.drop (i + 1) = [] := List.drop_of_length_le (by rw [hFl.out]; omega)
              rw [hd]
              intro jj u hu
              simp [pcells] at hu
            · rw [ho2, if_neg hc]
              exact hw'.news (by rw [pcells_length, List.length_drop, hFl.out]; omega) [] (by rw [pcells_drop, show pcells [] = [] from rfl, List.append_nil])
          replace ho2 := Lib.hid ho2
          clear hb
          refine wp_region_held_drew (S := FC g5 F (j * 2)) (by kernel_rfl) hFC.drew (fun hHeld => ?_)
          refine wpAnyH_take (i := 0) (v := ?_) rfl (by kernel_rfl) (by kernel_rfl) (by kernel_rfl) (fun _ _ _ h => h) (Or.inl ⟨by rfl, ?_⟩) (by assumption) ?_
          rotate_left
          · (intro wS hSw; (try dsimp only at hSw); go_simp; (try with_reducible rfl))
          try simp only [Act.put, List.getElem_toArray, List.getElem_cons_zero, List.setIfInBounds_toArray, List.set_cons_zero, List.set_cons_succ]
          refine wpAnyH_take (i := 1) (v := ?_) rfl (by kernel_rfl) (by kernel_rfl) (by kernel_rfl) (fun _ _ _ h => h) (Or.inl ⟨by rfl, ?_⟩) (by assumption) ?_
          rotate_left
          · (intro wS hSw; (try dsimp only at hSw); go_simp; (try with_reducible rfl))
          try simp only [Act.put, List.getElem_toArray, List.getElem_cons_succ, List.getElem_cons_zero, List.setIfInBounds_toArray, List.set_cons_zero, List.set_cons_succ]
          refine wpAnyH_take (i := 2) (v := ?_) rfl (by kernel_rfl) (by kernel_rfl) (by kernel_rfl) (fun _ _ _ h => h) (Or.inl ⟨by rfl, ?_⟩) (by assumption) ?_
          rotate_left
          · (intro wS hSw; (try dsimp only at hSw); go_simp; (try with_reducible rfl))
          try simp only [Act.put, List.getElem_toArray, List.getElem_cons_succ, List.getElem_cons_zero, List.setIfInBounds_toArray, List.set_cons_zero, List.set_cons_succ]
          refine wpAnyH_take (i := 4) (v := ?_) rfl (by kernel_rfl) (by kernel_rfl) (by kernel_rfl) (fun _ _ _ h => h) (Or.inl ⟨by rfl, ?_⟩) (by assumption) ?_
          rotate_left
          · (intro wS hSw; (try dsimp only at hSw); go_simp; (try with_reducible rfl))
          try simp only [Act.put, List.getElem_toArray, List.getElem_cons_succ, List.getElem_cons_zero, List.setIfInBounds_toArray, List.set_cons_zero, List.set_cons_succ]
          refine wpAnyH_take (i := 5) (v := ?_) rfl (by kernel_rfl) (by kernel_rfl) (by kernel_rfl) (fun _ _ _ h => h) (Or.inl ⟨by rfl, ?_⟩) (by assumption) ?_
          rotate_left
          · (intro wS hSw; (try dsimp only at hSw); go_simp; (try with_reducible rfl))
          try simp only [Act.put, List.getElem_toArray, List.getElem_cons_succ, List.getElem_cons_zero, List.setIfInBounds_toArray, List.set_cons_zero, List.set_cons_succ]
          refine wpAnyH_take (i := 6) (v := ?_) rfl (by kernel_rfl) (by kernel_rfl) (by kernel_rfl) (fun _ _ _ h => h) (Or.inl ⟨by rfl, ?_⟩) (by assumption) ?_
          rotate_left
          · (intro wS hSw; (try dsimp only at hSw); go_simp; (try with_reducible rfl))
          try simp only [Act.put, List.getElem_toArray, List.getElem_cons_succ, List.getElem_cons_zero, List.setIfInBounds_toArray, List.set_cons_zero, List.set_cons_succ]
          refine wpAnyH_take (i := 7) (v := ?_) rfl (by kernel_rfl) (by kernel_rfl) (by kernel_rfl) (fun _ _ _ h => h) (Or.inl ⟨by rfl, ?_⟩) (by assumption) ?_
          rotate_left
          · (intro wS hSw; (try dsimp only at hSw); go_simp; (try with_reducible rfl))
          try simp only [Act.put, List.getElem_toArray, List.getElem_cons_succ, List.getElem_cons_zero, List.setIfInBounds_toArray, List.set_cons_zero, List.set_cons_succ]
          refine wpAnyH_ready (rs := [3]) (by kernel_rfl) (by simp) ?_
          refine AllReadyH.cons rfl (fun K hK => ?_) AllReadyH.nil
          refine step_append_own (by rfl) (.const (.slice none 0 0)) (.tmp 73) 22 (by rfl) wr.heap.size 43 ii (.agg #[.int .i64 0, .int .i64 0]) 2 16 Try.underlying22 hi0 hz0 hz1 hz2 rfl (by decide) (.slice none 0 0) (0) ([]) (by simp [Act.eval, Act.put]) (World.ownsRow_nil _ _ _ _) ⟨g5, 0, none⟩ (i) (c5) (pcells (F.take i)) (by simp [Act.eval, Act.put]) (by rw [pcells_length]; simp [hFl.out]; (try omega)) (hHeld.news (o := 0) (by rw [pcells_length, List.length_take, hFl.out]; omega) (F.drop i) (by rw [← pcells_append, List.take_append_drop]; rfl)) (pcells_one _) (by unfold maxLen; omega) (by omega) (Nat.le_refl _) ?_
          intro v1 wA hownA hgrowA hrowA
          refine hK.out _ _ (hHeld.grown hgrowA (fun k e => by cases e)) (fun hHeld => ?_)
          clear hK K
          try simp only [Act.put, List.getElem_toArray, List.getElem_cons_succ, List.getElem_cons_zero, List.setIfInBounds_toArray, List.set_cons_zero, List.set_cons_succ]
          refine wpAnyH_ready (rs := [8]) (by kernel_rfl) (by simp) ?_
          refine AllReadyH.cons rfl (fun K hK => ?_) AllReadyH.nil
          refine step_append_own (by rfl) (.tmp 74) (.tmp 78) 22 (by rfl) wr.heap.size 43 ii (.agg #[.int .i64 0, .int .i64 0]) 2 16 Try.underlying22 hi0 hz0 hz1 hz2 rfl (by decide) v1 (i) (pcells (F.take i)) (by simp [Act.eval, Act.put]) (by simpa using hownA) ⟨g5, o2, none⟩ (j - (i + 1)) (c5 - (i + 1)) (pcells (F.drop (i + 1))) (by simp [Act.eval, Act.put]) (by rw [pcells_length]; simp [hFl.out]; (try omega)) (hn2 _ hHeld) (pcells_one _) (by unfold maxLen; omega) (by omega) (by have := hgrowA.size; simpa using this) ?_
          intro v2 wB hownB hgrowB hrowB
          refine hK.out _ _ (hHeld.grown hgrowB (fun k e => by have := (hownA.lt k e).1; have := hFC.1; omega)) (fun hHeld => ?_)
          clear hK K
          try simp only [Act.put, List.getElem_toArray, List.getElem_cons_succ, List.getElem_cons_zero, List.setIfInBounds_toArray, List.set_cons_zero, List.set_cons_succ]
          refine wpAnyH_take (i := 9) (v := ?_) rfl (by kernel_rfl) (by kernel_rfl) (by kernel_rfl) (fun _ _ _ h => h) (Or.inl ⟨by rfl, ?_⟩) (by assumption) ?_
          rotate_left
          · (intro wS hSw; (try dsimp only at hSw); go_simp; (try with_reducible rfl))
          try simp only [Act.put, List.getElem_toArray, List.getElem_cons_succ, List.getElem_cons_zero, List.setIfInBounds_toArray, List.set_cons_zero, List.set_cons_succ]
          refine wpAnyH_done (by kernel_rfl) ?_ _
          have hbr : Below wr.heap.size wr wB := ((Below.refl _ _).drew.grown hgrowA (Nat.le_refl _) (fun k e => by cases e)).grown hgrowB (by have := hgrowA.size; simpa using this) (fun k e => (hownA.lt k e).1)
          have hbB := Lib.hid (hb2.out.trans (hbr.mono hb2.out.size))
          have hFB := Lib.hid (hF2.out.more hbr)
          have hbe : pcells (F.take i) ++ pcells (F.drop (i + 1)) = pcells (broken j i) := by rw [← pcells_append, hFe.out]; rfl
          have hbl : (broken j i).length = i + (j - (i + 1)) := by rw [broken, List.length_append, List.length_take, List.length_drop, ring_len]; omega
          have hOB := hownB
          rw [hbe, ← hbl] at hOB
          obtain ⟨aB, cB, rfl, hG⟩ := PAt.own hOB (broken_wf hN hN2)
          have hno := Lib.hid (fun x => broken_no (N := j) hij x)
          have hcyc : ∃ x, Rt F x x := ⟨((0 : Nat) : Int), by rw [hFe.out]; exact ring_all hN hN⟩
          have hiw : (Lit.int .i64 (i : Int)).wf = true := wf_small (Int.natCast_nonneg _) (by omega)
          have hGl : (broken j i).length ≤ 20 := by rw [hbl]; omega
          replace hcyc := Lib.hid hcyc
          replace hG := Lib.hid hG
          replace hbl := Lib.hid hbl
          obtain ⟨G, hGe⟩ : ∃ G, G = broken j i := ⟨_, rfl⟩
          rw [← hGe] at hG hno hGl ⊢
          replace hGe := Lib.hid hGe
          clear hOB hbe hownA hownB hgrowA hgrowB hrowA hrowB hHeld hbr hF2 hb2 hFC hn2 hif
          go_wp2_with fail
          refine (any_n _ j c5 F _ hFl.out hFB.out (by omega)).mono ?_
          rintro e w5 ⟨bb, rfl, hbb, h5⟩
          obtain rfl := hbb.2 hcyc.out
          have hG5 := Lib.hid (hG.out.more h5)
          have hb5 := Lib.hid (hbB.out.trans (h5.mono hbB.out.size))
          clear h5 hbB hG hFB hbb
          go_wp2_with fail
          refine (any_any aB cB G _ hG5.out (by omega)).mono ?_
          rintro e w6 ⟨bb, rfl, hbb, h6⟩
          obtain rfl : bb = false := by
            cases bb
            · rfl
            · obtain ⟨x, hx⟩ := hbb.1 rfl
              exact absurd hx (hno.out x)
          have hG6 := Lib.hid (hG5.out.more h6)
          have hb6 := Lib.hid (hb5.out.trans (h6.mono hb5.out.size))
          clear h6 hb5 hG5 hbb
          go_wp2_with fail
          refine (on_any aB cB G i _ hG6.out (by omega) hiw).mono ?_
          rintro e w7 ⟨v7, l7, rfl, hL, ho7, _, _, h7⟩
          obtain rfl := onl_none hL (hno.out i)
          obtain ⟨a8, c8, rfl, _⟩ := IAt.own ho7
          go_wp2
          go_ret
          exact ⟨rfl, hb6.out.trans (h7.mono hb6.out.size)⟩
end Go.Proofs.Ytakgehcfomfmdaa
