/- Numbers sorted, and rising, of the document. No condition. -/
import Derived.Test.YtakgehcfomfmdaaCMem
import Derived.Test.YtakgehcfomfmdaaBkI
import Derived.Test.YtakgehcfomfmdaaCPlain
import Derived.Deep.Onto
namespace Go.Proofs.Ytakgehcfomfmdaa
open Go.RowKit

/-- In the midst of an insertion at k: all but the k-th are falling up to i. -/
structure Ins (m : List Int) (i k : Nat) : Prop where
  le : k ≤ i
  lt : i < m.length
  oth : ∀ p q (hp : p < m.length) (hq : q < m.length), p < q → q ≤ i → p ≠ k → q ≠ k → m[q] ≤ m[p]
  big : ∀ q (hk : k < m.length) (hq : q < m.length), k < q → q ≤ i → m[q] ≤ m[k]
def Fall (m : List Int) (i : Nat) : Prop := ∀ p q (hp : p < m.length) (hq : q < m.length), p < q → q < i → m[q] ≤ m[p]
theorem Fall.ins {m : List Int} {i : Nat} (h : Fall m i) (hi : i < m.length) : Ins m i i := ⟨Nat.le_refl _, hi, fun p q hp hq h1 h2 h3 h4 => h p q hp hq h1 (by omega), fun q _ _ h1 h2 => by omega⟩
theorem Ins.done {m : List Int} {i k : Nat} (h : Ins m i k) (hx : ∀ (h0 : 0 < k) (hk : k < m.length), m[k] ≤ m[k - 1]) : Fall m (i + 1) := by
  intro p q hp hq h1 h2
  have hle := h.le
  have hlt := h.lt
  by_cases e1 : p = k
  · subst e1; exact h.big q hp hq h1 (by omega)
  · by_cases e2 : q = k
    · subst e2
      have h3 := hx (by omega) hq
      by_cases e3 : p = q - 1
      · subst e3; exact h3
      · have := h.oth p (q - 1) hp (by omega) (by omega) (by omega) e1 (by omega)
        omega
    · exact h.oth p q hp hq h1 (by omega) e1 e2
def swp (m : List Int) (k : Nat) (a b : Int) : List Int := (m.set k b).set (k - 1) a
theorem Ins.swap {m : List Int} {i k : Nat} (h : Ins m i k) (h0 : 0 < k) (hk : k < m.length) (hx : m[k - 1] < m[k]) : Ins (swp m k m[k] m[k - 1]) i (k - 1) := by
  have hle := h.le
  have hlt := h.lt
  have hl : (swp m k m[k] m[k - 1]).length = m.length := by simp [swp]
  have hg : ∀ j (hj : j < (swp m k m[k] m[k - 1]).length), (swp m k m[k] m[k - 1])[j] = if j = k - 1 then m[k] else if j = k then m[k - 1] else m[j]'(by omega) := fun j hj => by
    simp only [swp, List.getElem_set]
    by_cases e1 : k - 1 = j
    · simp [e1]
    · by_cases e2 : k = j
      · subst e2
        have e3 : ¬ k = k - 1 := by omega
        simp [e1, e3]
      · have e3 : ¬ j = k - 1 := fun e => e1 e.symm
        have e4 : ¬ j = k := fun e => e2 e.symm
        simp [e1, e2, e3, e4]
  refine ⟨by omega, by omega, fun p q hp hq h1 h2 h3 h4 => ?_, fun q h3 hq h1 h2 => ?_⟩
  · rw [hg p hp, hg q hq, if_neg h3, if_neg h4]
    by_cases e1 : p = k
    · rw [if_pos e1, if_neg (by omega)]
      exact h.oth (k - 1) q (by omega) (by omega) (by omega) h2 (by omega) (by omega)
    · rw [if_neg e1]
      by_cases e2 : q = k
      · rw [if_pos e2]
        exact h.oth p (k - 1) (by omega) (by omega) (by omega) (by omega) e1 (by omega)
      · rw [if_neg e2]
        exact h.oth p q (by omega) (by omega) h1 h2 e1 e2
  · rw [hg q hq, hg (k - 1) h3, if_pos rfl, if_neg (by omega)]
    by_cases e2 : q = k
    · rw [if_pos e2]; omega
    · rw [if_neg e2]
      exact h.big q hk (by omega) (by omega) h2
theorem swp_perm {m : List Int} {k : Nat} (h0 : 0 < k) (hk : k < m.length) : (swp m k m[k] m[k - 1]).Perm m := List.set_set_perm hk (by omega)
theorem icells_swp (m : List Int) (k : Nat) (a b : Int) : ((icells m).set k (.int .i64 b)).set (k - 1) (.int .i64 a) = icells (swp m k a b) := by
  simp [icells, swp, List.map_set]
theorem icells_all (m : List Int) : AllI (icells m) := fun u hu => by
  obtain ⟨x, _, rfl⟩ := List.mem_map.1 hu
  exact ⟨x, rfl⟩

theorem ownsRow_drewN {w : World} {base : Nat} {e : TypeId} {size : Nat} {v : Value} {n : Nat} {xs : List Value} (h : w.ownsRow base e size v n xs) (k : Nat) : (w.drewN k).ownsRow base e size v n xs := h
theorem sort_swap {w wr : World} {g mo cap k j : Nat} {m2 l : List Int} (ho : wr.ownsRow w.heap.size 3 1 (.slice (some ⟨g, 0, none⟩) mo cap) mo (icells m2)) (hp : m2.Perm l) (hi : Ins m2 k (j + 1)) (hb : Below w.heap.size w wr) (hml : m2.length = mo) (hj : j + 1 < m2.length) (x y : Int) (hx : x = m2[j + 1]) (hy : y = m2[j]) (hgt : y < x) :
    ∃ m3 : List Int, m3.length = mo ∧ ((wr.setCell ⟨g, j + 1, none⟩ (.int .i64 y)).setCell ⟨g, j, none⟩ (.int .i64 x)).ownsRow w.heap.size 3 1 (.slice (some ⟨g, 0, none⟩) mo cap) mo (icells m3) ∧ m3.Perm l ∧ Ins m3 k j ∧ Below w.heap.size w ((wr.setCell ⟨g, j + 1, none⟩ (.int .i64 y)).setCell ⟨g, j, none⟩ (.int .i64 x)) := by
  have h1 := ho.stored (j + 1) (.int .i64 y)
  have h2 := h1.1.stored j (.int .i64 x)
  have hge := (ho.lt g rfl).1
  have e := icells_swp m2 (j + 1) x y
  rw [Nat.add_sub_cancel] at e
  rw [e] at h2
  subst hx hy
  exact ⟨_, by simp [swp, hml], h2.1, (swp_perm (by omega) hj).trans hp, hi.swap (by omega) hj hgt, (hb.setCell hge _).setCell hge _⟩
set_option maxRecDepth 100000 in
set_option maxHeartbeats 3200000 in
theorem sorted_any (v : Value) (l : List Int) (w : World) (hv : RdAt w v l.length (icells l)) (hl : l.length ≤ 1000000) :
    Calls Try.prog 70 #[v] w fun e w' => ∃ (v' : Value) (m : List Int), e = .returned v' ∧ w'.ownsRow w.heap.size 3 1 v' m.length (icells m) ∧ m.Perm l ∧ Fall m m.length ∧ Below w.heap.size w w' := by
  obtain ⟨ii, hi0, hz0, hz1, hz2⟩ := info_parts infoInt
  obtain ⟨a, c, rfl, _⟩ := id hv
  replace hv := Lib.hid hv
  obtain ⟨n, hn⟩ : ∃ n, n = l.length := ⟨_, rfl⟩
  rw [← hn] at hv hl ⊢
  have hil : (icells l).length = n * 1 := by rw [icells_length, hn, Nat.mul_one]
  replace hil := Lib.hid hil
  replace hn := Lib.hid hn
  go_enter Try.func70, Try.ntmps70
  go_wp2_with (at_builtin; refine wpList_append_rd rfl _ _ 25 rfl w.heap.size 3 ii (.int .i64 0) 1 8 Try.underlying25 hi0 hz0 hz1 hz2 rfl (by decide) (.slice none 0 0) 0 [] rfl (World.ownsRow_nil _ _ _ _) _ n (icells l) rfl hil.out (by go_simp; exact hv.out) (icells_one l) (by unfold maxLen; omega) (by omega) (Nat.le_refl _) ?_; intro v' w3 hp; have hn1 := Lib.hid ((Below.refl w.heap.size w).grown hp.2.1 (Nat.le_refl _) (fun k e => by cases e)); have ho1 := hp.1; rw [Nat.zero_add, List.nil_append] at ho1; replace ho1 := Lib.hid ho1; clear hp)
  obtain ⟨ao, mo, co, rfl, emo⟩ := own_form ho1.out
  subst emo
  go_loopw [4, 5] (fun i _ wr => ∃ (k : Nat) (m : List Int), 1 ≤ k ∧ i = .int .i64 k ∧ m.length = mo ∧ (k ≤ mo ∨ k = 1) ∧ Aside (wr.ownsRow w.heap.size 3 1 (.slice ao mo co) mo (icells m) ∧ m.Perm l ∧ Fall m k ∧ Below w.heap.size w wr)) (fun i _ _ => mo + 1 - (intOf i).toNat)
  case atStart => exact ⟨1, l, Nat.le_refl _, rfl, hn.out.symm, .inr rfl, ho1.out, List.Perm.refl _, fun p q _ _ h1 h2 => by omega, hn1.out⟩
  case round =>
    obtain ⟨k, m, hk, rfl, hml, hkm, hA⟩ := hrel
    by_cases hlt : k < mo
    · have hkl : (k : Int) < mo := by omega
      obtain ⟨ho, hpm, hfl, hb⟩ := hA.out
      have hI0 := Lib.hid (show wr.ownsRow w.heap.size 3 1 (.slice ao mo co) mo (icells m) ∧ m.Perm l ∧ Ins m k k ∧ Below w.heap.size w wr from ⟨ho, hpm, hfl.ins (by omega), hb⟩)
      clear hA ho hpm hfl hb hn1 ho1
      go_wp2
      go_loopw [5] (fun i wr2 => ∃ (j : Nat) (m2 : List Int), i = .int .i64 j ∧ m2.length = mo ∧ j ≤ k ∧ Aside (wr2.ownsRow w.heap.size 3 1 (.slice ao mo co) mo (icells m2) ∧ m2.Perm l ∧ Ins m2 k j ∧ Below w.heap.size w wr2)) (fun i _ => (intOf i).toNat)
      case atStart => exact ⟨k, m, rfl, hml, Nat.le_refl _, hI0.out⟩
      case round =>
        obtain ⟨j, m2, rfl, hml2, hjk, hA2⟩ := hrel
        obtain ⟨ho2, hpm2, hin2, hb2⟩ := hA2.out
        rcases ho2.2 with ⟨e1, e2⟩ | ⟨g, cap, cur, e1, hge, _⟩
        · omega
        obtain ⟨rfl, _, rfl⟩ : ao = some ⟨g, 0, none⟩ ∧ mo = mo ∧ co = cap := by simpa using e1
        clear e1
        cases j with
        | zero =>
          have hfin := Lib.hid (hin2.done (fun h => by omega))
          go_wp2
          go_quiet (fail)
          go_wp2
          go_roundw
          case rel => exact ⟨k + 1, m2, by omega, by go_num, hml2, .inl hlt, ownsRow_drewN ho2 _, hpm2, hfin.out, bk_drewN hb2 _⟩
          case measure => simp [intOf]; omega
        | succ j =>
          have hj1 : j + 1 < m2.length := by omega
          have hc1 := ho2.cellAt (j + 1) (by omega)
          have hc0 := ho2.cellAt j (by omega)
          have hz1 := ho2.frozenAt (j + 1)
          have hz0 := ho2.frozenAt j
          obtain ⟨x, hx⟩ : ∃ x, x = m2[j + 1] := ⟨_, rfl⟩
          obtain ⟨y, hy⟩ : ∃ y, y = m2[j] := ⟨_, rfl⟩
          have e1 : (icells m2)[j + 1]? = some (.int .i64 x) := by rw [icells, List.getElem?_map, List.getElem?_eq_getElem hj1, hx]; rfl
          have e0 : (icells m2)[j]? = some (.int .i64 y) := by rw [icells, List.getElem?_map, List.getElem?_eq_getElem (by omega), hy]; rfl
          rw [e1] at hc1
          rw [e0] at hc0
          have hk1 : (j : Int) + 1 < mo := by omega
          have hk0 : (j : Int) < mo := by omega
          by_cases hgt : y < x
          · have hI3 := Lib.hid (fun d => sort_swap (wr := (wr.drewN d).drew) ho2 hpm2 hin2 (bk_drewN hb2 d).drew (by omega) hj1 x y hx hy hgt)
            clear ho2 hpm2 hin2 hb2 hA2 e1 e0 hx hy
            go_wp2
            go_quiet (fail)
            go_wp2
            go_region
            all_goals
              go_wp2
              go_roundw
              case rel =>
                obtain ⟨m3, q1, q2, q3, q4, q5⟩ := hI3.out nq
                exact ⟨j, m3, by first | rfl | go_num, q1, by omega, q2, q3, q4, q5⟩
              case measure => simp [intOf]
          · have hfin := Lib.hid (hin2.done (fun _ _ => by simp only [Nat.add_sub_cancel]; rw [← hx, ← hy]; omega))
            clear hx hy e1 e0
            go_wp2
            go_quiet (fail)
            go_wp2
            go_roundw
            case rel => exact ⟨k + 1, m2, by omega, by go_num, hml2, .inl hlt, ownsRow_drewN ho2 _, hpm2, hfin.out, bk_drewN hb2 _⟩
            case measure => simp [intOf]; omega
    · obtain ⟨ho, hpm, hfl, hb⟩ := hA.out
      have hfin : Fall m m.length := fun p q hp hq h1 h2 => by
        rcases hkm with h | h
        · exact hfl p q hp hq h1 (by omega)
        · omega
      have hnk : ¬ ((k : Int) < mo) := by omega
      replace ho := Lib.hid (show wr.ownsRow w.heap.size 3 1 (.slice ao mo co) m.length (icells m) by rw [hml]; exact ho)
      replace hfin := Lib.hid hfin
      go_wp2
      go_ret
      exact ⟨_, rfl, m, ho.out, hpm, hfin.out, hb⟩

/-- Rising, each once, out of the falling ones from the k-th on. -/
structure Rs (m out : List Int) (k : Nat) : Prop where
  rise : out.Pairwise (· < ·)
  mem : ∀ x, x ∈ out ↔ x ∈ m.drop k
  last : ∀ (hk : k < m.length), ∃ t, out = t ++ [m[k]]
theorem Rs.start (m : List Int) : Rs m [] m.length := ⟨List.Pairwise.nil, fun x => by simp, fun h => by omega⟩
theorem Rs.same {m out : List Int} {k : Nat} (h : Rs m out (k + 1)) (hk : k < m.length) (hk1 : k + 1 < m.length) (he : m[k + 1] = m[k]) : Rs m out k :=
  ⟨h.rise, fun x => by
    rw [List.drop_eq_getElem_cons hk, List.mem_cons, h.mem x]
    constructor
    · exact .inr
    · rintro (e | e)
      · rw [e, ← he, List.drop_eq_getElem_cons hk1]; exact List.mem_cons_self ..
      · exact e, fun _ => by obtain ⟨t, ht⟩ := h.last hk1; exact ⟨t, by rw [ht, he]⟩⟩
theorem Rs.new {m out : List Int} {k : Nat} (h : Rs m out (k + 1)) (hf : Fall m m.length) (hk : k < m.length) (he : ∀ hk1 : k + 1 < m.length, m[k + 1] ≠ m[k]) : Rs m (out ++ [m[k]]) k := by
  refine ⟨?_, fun x => by rw [List.drop_eq_getElem_cons hk, List.mem_append, List.mem_singleton, h.mem x, List.mem_cons]; exact ⟨Or.symm, Or.symm⟩, fun _ => ⟨out, rfl⟩⟩
  rw [List.pairwise_append]
  refine ⟨h.rise, List.pairwise_singleton _ _, fun x hx y hy => ?_⟩
  rw [List.mem_singleton.1 hy]
  rw [h.mem x] at hx
  obtain ⟨q, hq, rfl⟩ := List.getElem_of_mem hx
  rw [List.getElem_drop]
  rw [List.length_drop] at hq
  have hk1 : k + 1 < m.length := by omega
  have h1 := he hk1
  have h2 := hf k (k + 1) hk hk1 (by omega) hk1
  rcases Nat.eq_zero_or_pos q with e | e
  · subst e; simp only [Nat.add_zero]; omega
  · have := hf (k + 1) (k + 1 + q) hk1 (by omega) (by omega) (by omega)
    omega

set_option maxRecDepth 100000 in
set_option maxHeartbeats 3200000 in
theorem rising_any (v : Value) (l : List Int) (w : World) (hv : RdAt w v l.length (icells l)) (hl : l.length ≤ 1000000) :
    Calls Try.prog 27 #[v] w fun e w' => ∃ (v' : Value) (out : List Int), e = .returned v' ∧ w'.ownsRow w.heap.size 3 1 v' out.length (icells out) ∧ out.Pairwise (· < ·) ∧ (∀ x, x ∈ out ↔ x ∈ l) ∧ Below w.heap.size w w' := by
  obtain ⟨ii, hi0, hz0, hz1, hz2⟩ := info_parts infoInt
  go_enter Try.func27, Try.ntmps27
  go_wp2_with fail
  refine (sorted_any v l w hv hl).mono ?_
  rintro e w1 ⟨v1, m, rfl, ho1, hpm, hfl, hb1⟩
  have hml : m.length ≤ 1000000 := by rw [hpm.length_eq]; exact hl
  have hmem : ∀ x, x ∈ m ↔ x ∈ l := fun x => hpm.mem_iff
  obtain ⟨a1, c1, rfl, hA1⟩ := IAt.own ho1
  replace hb1 := Lib.hid hb1
  replace hA1 := Lib.hid hA1
  replace hmem := Lib.hid hmem
  replace hfl := Lib.hid hfl
  clear ho1 hpm hv
  go_wp2
  go_loopw [4, 5] (fun vo i wr => ∃ (k : Nat) (out : List Int), k ≤ m.length ∧ i = .int .i64 ((k : Int) - 1) ∧ out.length + k ≤ m.length ∧ Aside (wr.ownsRow w1.heap.size 3 1 vo out.length (icells out) ∧ Rs m out k ∧ Below w1.heap.size w1 wr)) (fun _ i _ => (intOf i + 1).toNat)
  case atStart => exact ⟨m.length, [], Nat.le_refl _, rfl, by simp, World.ownsRow_nil _ _ _ _, Rs.start m, Below.refl _ _⟩
  case round =>
    obtain ⟨k, out, hk, rfl, hol, hA⟩ := hrel
    obtain ⟨ho, hR, hb⟩ := hA.out
    obtain ⟨ao, mo, co, rfl, emo⟩ := own_form ho
    subst emo
    cases k with
    | zero =>
      have hfin := hR.mem
      rw [List.drop_zero] at hfin
      have hr := hR.rise
      replace hfin := Lib.hid hfin
      replace hr := Lib.hid hr
      replace ho := Lib.hid ho
      replace hb := Lib.hid hb
      clear hA hR
      go_wp2
      go_ret
      exact ⟨_, out, rfl, ho.out.mono hb1.out.size, hr.out, fun x => (hfin.out x).trans (hmem.out x), hb1.out.trans (hb.out.mono hb1.out.size)⟩
    | succ k =>
      have hkm : k < m.length := by omega
      obtain ⟨bm, om, rfl, hcm⟩ := hA1.out k hkm
      have hcm1 : wr.cell? ⟨bm, om + k, none⟩ = some (.int .i64 m[k]) := (World.cell?_of_block (w := w1) (hb.block _ (World.block_lt_of_cell? w1 _ hcm))).trans hcm
      obtain ⟨x, hx⟩ : ∃ x, x = m[k] := ⟨_, rfl⟩
      rw [← hx] at hcm1
      have hkl : (k : Int) < m.length := by omega
      have e9 : ((k + 1 : Nat) : Int) - 1 = k := by omega
      rw [e9]
      clear hcm e9
      by_cases h0 : out = []
      · subst h0
        have hne : ¬ k + 1 < m.length := fun h => by
          obtain ⟨t, ht⟩ := hR.last h
          simp at ht
        have hR2 := hR.new hfl.out hkm (fun h => absurd h hne)
        rw [← hx] at hR2
        replace hR2 := Lib.hid hR2
        replace ho := Lib.hid ho
        replace hb := Lib.hid hb
        have e0 : ([] : List Int).length = 0 := rfl
        rw [e0] at ho ⊢
        clear hA hR hx e0
        go_wp2
        go_quiet (fail)
        go_wp2_with (at_builtin; refine wpList_append_rd rfl _ _ 25 rfl w1.heap.size 3 ii (.int .i64 0) 1 8 Try.underlying25 hi0 hz0 hz1 hz2 rfl (by decide) _ 0 (icells ([] : List Int)) rfl ((ownsRow_drewN ho.out nq).alloc _) _ 1 [.int .i64 x] rfl rfl (by go_simp; exact RdAt.new1 _ rfl) (by intro u hu; rw [List.mem_singleton.1 hu]; rfl) (by unfold maxLen; omega) (by omega) (by have := hb.out.size; simp; omega) ?_; intro v5 w5 hp5; have hb5 := Lib.hid (grow_own (w := w1) (ownsRow_drewN ho.out nq) (bk_drewN hb.out nq) hp5); have ho5 := hp5.1; have ho6 : w5.ownsRow w1.heap.size 3 1 v5 (([] : List Int) ++ [x]).length (icells (([] : List Int) ++ [x])) := by { rw [icells_append, List.length_append]; exact ho5 }; replace ho6 := Lib.hid ho6; clear hp5 ho5)
        go_roundw
        case rel => exact ⟨k, [x], by omega, by go_num, by simp; omega, ho6.out, hR2.out, hb5.out⟩
        case measure => simp [intOf]
      · have hk1 : k + 1 < m.length := by
          rcases Nat.lt_or_ge (k + 1) m.length with h | h
          · exact h
          · exfalso
            cases out with
            | nil => exact h0 rfl
            | cons z t =>
              have := (hR.mem z).1 (List.mem_cons_self ..)
              rw [List.drop_of_length_le h] at this
              cases this
        obtain ⟨t, ht⟩ := hR.last hk1
        obtain ⟨z, hz⟩ : ∃ z, z = m[k + 1] := ⟨_, rfl⟩
        rw [← hz] at ht
        have hot : out.length = t.length + 1 := by rw [ht]; simp
        have hnz : (((out.length : Nat) : Int) == 0) = false := by rw [hot]; exact beq_eq_false_iff_ne.2 (by omega)
        rcases ho.2 with ⟨e1, e2⟩ | ⟨g, cap, cur, e1, _⟩
        · omega
        obtain ⟨rfl, rfl⟩ : ao = some ⟨g, 0, none⟩ ∧ co = cap := by simpa using e1
        have hcz : wr.cell? ⟨g, t.length, none⟩ = some (.int .i64 z) := by
          rw [ho.cellAt t.length (by omega), ht, icells_append]
          rw [List.getElem?_append_right (by rw [icells_length]; exact Nat.le_refl _), icells_length, Nat.sub_self]
          rfl
        have hR3 : z ≠ x → Rs m (out ++ [x]) k := fun hne => by rw [hx]; exact hR.new hfl.out hkm (fun _ => by rw [← hz, ← hx]; exact hne)
        have hR4 : z = x → Rs m out k := fun he => hR.same hkm hk1 (by rw [← hz, ← hx]; exact he)
        replace hR3 := Lib.hid hR3
        replace hR4 := Lib.hid hR4
        replace hb := Lib.hid hb
        obtain ⟨no, hno⟩ : ∃ no, no = out.length := ⟨_, rfl⟩
        rw [← hno] at ho hot hnz hol ⊢
        have hn1 : ((no : Nat) : Int) - 1 = t.length := by omega
        have htl : (t.length : Int) < no := by omega
        replace ho := Lib.hid ho
        replace hno := Lib.hid hno
        replace hot := Lib.hid hot
        clear hA hR hx hz ht e1 h0
        by_cases hzx : z = x
        · have hbz : (z == x) = true := by rw [hzx]; exact beq_self_eq_true x
          have hR5 := Lib.hid (hR4.out hzx)
          replace hzx := Lib.hid hzx
          go_wp2
          go_quiet (fail)
          go_wp2
          go_roundw
          case rel => exact ⟨k, out, by omega, by go_num, by rw [← hno.out]; omega, by rw [← hno.out]; exact ownsRow_drewN ho.out _, hR5.out, bk_drewN hb.out _⟩
          case measure => simp [intOf]
        · have hbz : (z == x) = false := beq_eq_false_iff_ne.2 hzx
          have hR5 := Lib.hid (hR3.out hzx)
          replace hzx := Lib.hid hzx
          go_wp2
          go_quiet (fail)
          go_wp2_with (at_builtin; refine wpList_append_rd rfl _ _ 25 rfl w1.heap.size 3 ii (.int .i64 0) 1 8 Try.underlying25 hi0 hz0 hz1 hz2 rfl (by decide) _ no (icells out) rfl ((ownsRow_drewN ho.out nq).alloc _) _ 1 [.int .i64 x] rfl rfl (by go_simp; exact RdAt.new1 _ rfl) (by intro u hu; rw [List.mem_singleton.1 hu]; rfl) (by unfold maxLen; omega) (by omega) (by have := hb.out.size; simp; omega) ?_; intro v5 w5 hp5; have hb5 := Lib.hid (grow_own (w := w1) (ownsRow_drewN ho.out nq) (bk_drewN hb.out nq) hp5); have ho5 := hp5.1; have ho6 : w5.ownsRow w1.heap.size 3 1 v5 (out ++ [x]).length (icells (out ++ [x])) := by { rw [icells_append, List.length_append, ← hno.out]; exact ho5 }; replace ho6 := Lib.hid ho6; clear hp5 ho5)
          go_roundw
          case rel => exact ⟨k, out ++ [x], by omega, by go_num, by rw [List.length_append, ← hno.out]; simp; omega, ho6.out, hR5.out, hb5.out⟩
          case measure => simp [intOf]
end Go.Proofs.Ytakgehcfomfmdaa
