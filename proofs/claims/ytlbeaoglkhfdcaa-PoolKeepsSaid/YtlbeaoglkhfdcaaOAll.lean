/- All pages are written; which are dirty; which are not; a new pool; what a law sees of a pool. No condition. -/
import Derived.Test.YtlbeaoglkhfdcaaOSet
namespace Go.Proofs.Ytlbeaoglkhfdcaa
open Go.RowKit Go.Maps Go.WideShapes

/-- Pages and when they were changed first, in memory. -/
def dcells : List (Int × Int) → List Value
  | [] => []
  | p :: r => .int .i64 p.1 :: .int .i64 p.2 :: dcells r
theorem dcells_length : ∀ l : List (Int × Int), (dcells l).length = l.length * 2
  | [] => rfl
  | p :: r => by simp [dcells, dcells_length r]; omega
theorem dcells_append : ∀ l m : List (Int × Int), dcells (l ++ m) = dcells l ++ dcells m
  | [], m => rfl
  | p :: r, m => by simp [dcells, dcells_append r m]
theorem dcells_one : ∀ l : List (Int × Int), ∀ u ∈ dcells l, u.oneCell' = true
  | [], u, h => by cases h
  | p :: r, u, h => by
    rcases List.mem_cons.1 h with rfl | h
    · rfl
    · rcases List.mem_cons.1 h with rfl | h
      · rfl
      · exact dcells_one r u h
theorem dcells_at (l : List (Int × Int)) : ∀ k (h : k < l.length), (dcells l)[2 * k]? = some (.int .i64 (l[k]).1) ∧ (dcells l)[2 * k + 1]? = some (.int .i64 (l[k]).2) := by
  induction l with
  | nil => intro k h; simp at h
  | cons p a ih =>
    intro k h
    cases k with
    | zero => simp [dcells]
    | succ k =>
      have := ih k (by simpa using h)
      rw [show 2 * (k + 1) = 2 * k + 1 + 1 by omega]
      simpa [dcells] using this
theorem infoDirty : (Try.prog.info? 38).map (fun i => (i.zero, i.size, i.bytes)) = some (some (.agg #[.int .i64 0, .int .i64 0]), 2, 16) := by kernel_rfl
theorem new_two {w : World} {b' : Nat} {x y : Int} (t : TypeId) (hb : b' = w.heap.size) : ∀ j u, [Value.int .i64 x, Value.int .i64 y][j]? = some u → (w.alloc (.cells #[.int .i64 x, .int .i64 y] t)).cell? (Addr.add ⟨b', 0, none⟩ j) = some u := by
  subst hb
  intro j u hj
  match j, hj with
  | 0, hj =>
    cases hj
    rw [Addr.add_lit]
    exact cell_of (heap_alloc_new w _) rfl
  | 1, hj =>
    cases hj
    rw [Addr.add_lit]
    exact cell_of (heap_alloc_new w _) rfl
  | n + 2, hj => simp at hj
theorem pdirty_take (s : PS) (k : Nat) (h : k < s.ks.length) : pdirty { s with ks := s.ks.take (k + 1) } = pdirty { s with ks := s.ks.take k } ++ (if (s.fr s.ks[k]).d = true then [(s.ks[k], (s.fr s.ks[k]).since)] else []) := by
  unfold pdirty
  simp only [List.take_succ_eq_append_getElem h, List.filter_append, List.map_append]
  congr 1
  by_cases e : (s.fr s.ks[k]).d = true <;> simp [e]

section
variable {σ : Type} {D : Dv σ} {E : Dev D} {w : World} {F G : Nat → Prop} {pb mb cap : Nat} {bk : Int → Nat} {t : σ} {s : PS}
theorem clean_raw (n : Int) (hn : (Lit.int .i64 n).wf = true) (hA : PAt E w F pb mb bk cap s) :
    Calls Try.prog 19 #[.pointer (some ⟨pb, 0, none⟩), .int .i64 n] w fun e w' => e = .returned (.bool (pclean s n)) ∧ w = w' := by
  have hmap := hA.map.look hn
  obtain ⟨_, _, _, _, c4, _, _, _⟩ := hA.cells
  by_cases hk : n ∈ s.ks
  · rw [if_pos hk] at hmap
    obtain ⟨_, f1, _⟩ := hA.fcells hk
    have hp : pclean s n = !(s.fr n).d := by simp [pclean, hk]
    rw [hp]
    clear hA hp
    go_enter Try.func19, Try.ntmps19
    go_wp2
    go_ret
    exact ⟨rfl, rfl⟩
  · rw [if_neg hk] at hmap
    have hp : pclean s n = true := by simp [pclean, hk]
    rw [hp]
    clear hA hp
    go_enter Try.func19, Try.ntmps19
    go_wp2
    go_ret
    exact ⟨rfl, rfl⟩
set_option maxHeartbeats 1600000 in
theorem dirty_raw (hA : PAt E w F pb mb bk cap s) :
    Calls Try.prog 20 #[.pointer (some ⟨pb, 0, none⟩)] w fun e w' => ∃ v, e = .returned v ∧ w'.ownsRow w.heap.size 38 2 v (pdirty s).length (dcells (pdirty s)) ∧ Below w.heap.size w w' := by
  obtain ⟨ii, hi0, hz0, hz1, hz2⟩ := info_parts infoDirty
  have hh := has_raw hA
  have hfew := hA.ok.few
  replace hh := Lib.hid hh
  replace hA := Lib.hid hA
  go_enter Try.func20, Try.ntmps20
  go_wp2_with fail
  refine hh.out.mono ?_
  rintro e w1 ⟨v, rfl, ho, hb⟩
  obtain ⟨a1, c1, rfl, hx1⟩ := IAt.own ho
  have hA1 := Lib.hid (hA.out.more hb)
  have hbs := hb.size
  replace hb := Lib.hid hb
  replace hx1 := Lib.hid hx1
  clear ho hh
  go_wp2
  go_loopg [10, 3] s.ks.length (fun g i v wr => ∃ k : Nat, g + k = s.ks.length ∧ i = .int .i64 k ∧ Aside (wr.ownsRow w1.heap.size 38 2 v (pdirty { s with ks := s.ks.take k }).length (dcells (pdirty { s with ks := s.ks.take k })) ∧ Below w1.heap.size w1 wr))
  case atStart => exact ⟨0, rfl, rfl, World.ownsRow_nil _ _ _ _, Below.refl _ _⟩
  case round =>
    obtain ⟨k, hk, rfl, hI⟩ := hrel
    by_cases hlt : k < s.ks.length
    · obtain ⟨ho, hbw⟩ := hI.out
      have hA2 := hA1.out.more hbw
      obtain ⟨b2, o2, rfl, hc2⟩ := hx1.out k hlt
      have hc3 := cell_more hbw hc2
      have hblt := World.block_lt_of_cell? wr _ hc3
      have hst := pdirty_take s k hlt
      have hxm : s.ks[k] ∈ s.ks := List.getElem_mem hlt
      obtain ⟨x, hx⟩ : ∃ x, x = s.ks[k] := ⟨_, rfl⟩
      rw [← hx] at hst hxm hc3
      have hdl : (pdirty { s with ks := s.ks.take k }).length ≤ 1000000 := by
        unfold pdirty
        rw [List.length_map]
        refine Nat.le_trans (List.length_filter_le _ _) ?_
        simp only [List.length_take]; omega
      have hm1 := hA2.map.look (hA2.ok.wf x hxm)
      rw [if_pos hxm] at hm1
      obtain ⟨_, _, _, _, c4, _, _, _⟩ := hA2.cells
      obtain ⟨_, f1, f2, _, _, _, _, fl⟩ := hA2.fcells hxm
      have hbws := hbw.size
      have hws : w.heap.size ≤ wr.heap.size := by omega
      generalize pdirty { s with ks := s.ks.take k } = L at *
      replace ho := Lib.hid ho
      replace hbw := Lib.hid hbw
      replace hx := Lib.hid hx
      replace hxm := Lib.hid hxm
      replace hA2 := Lib.hid hA2
      clear hI hc2
      cases hd : (s.fr x).d with
      | true =>
        rw [hd] at f1
        rw [hd, if_pos rfl] at hst
        replace hst := Lib.hid hst
        replace hd := Lib.hid hd
        go_wp2_with (at_builtin; refine wpList_append_own' rfl (.tmp 24) (.tmp 31) 34 rfl w1.heap.size 38 ii (.agg #[.int .i64 0, .int .i64 0]) 2 16 Try.underlying34 hi0 hz0 hz1 hz2 rfl (by decide) _ _ _ rfl (ho.out.alloc _) ⟨wr.heap.size, 0, none⟩ 1 1 [.int .i64 x, .int .i64 (s.fr x).since] rfl rfl (new_two _ rfl) (by intro u hu; simp at hu; rcases hu with rfl | rfl <;> rfl) (by unfold maxLen; omega) (by omega) (by simp; omega) ?_; intro v5 w5 hown' hgrow hrow; have HB := Lib.hid ((hbw.out.alloc hbws _).grown hgrow (by simp; omega) (fun j e => by have := (ho.out.lt j e).1; omega)); have HO := Lib.hid hown'; clear hown' hgrow hrow)
        go_roundg (s.ks.length - (k + 1))
        case rel => exact ⟨k + 1, by omega, by go_num, by rw [hst.out, dcells_append, List.length_append]; exact HO.out, HB.out⟩
        case measure => omega
      | false =>
        rw [hd] at f1
        rw [hd] at hst
        simp only [Bool.false_eq_true, if_false, List.append_nil] at hst
        replace hst := Lib.hid hst
        replace hd := Lib.hid hd
        go_wp2
        go_roundg (s.ks.length - (k + 1))
        case rel => exact ⟨k + 1, by omega, by go_num, by rw [hst.out]; exact ho.out, hbw.out⟩
        case measure => omega
    · obtain rfl : k = s.ks.length := by omega
      rw [List.take_length] at hI
      obtain ⟨ho, hbw⟩ := hI.out
      have ho2 := Lib.hid ho
      have hbw2 := Lib.hid hbw
      clear hI ho hbw
      go_wp2
      go_ret
      exact ⟨_, rfl, row_base ho2.out hbs, hb.out.trans (hbw2.out.mono hbs)⟩
theorem IAt.chg {S : Nat → Prop} {w w' : World} {b o : Nat} {l : List Int} (h : IAt w (some ⟨b, o, none⟩) l) (hc : Chg S w w') (hn : ¬ S b) : IAt w' (some ⟨b, o, none⟩) l := fun j hj => by
  obtain ⟨b1, o1, e, h1⟩ := h j hj
  cases e
  exact ⟨b, o, rfl, (World.cell?_of_block (w := w) (hc.block _ (World.block_lt_of_cell? w _ h1) hn)).trans h1⟩
/-- All: how far it has come. -/
theorem pallOf_left (D : Dv σ) (E : Dev D) : ∀ (l : List Int) (t : σ) (s : PS), E.left t ≤ E.left (pallOf D l t s).1 + 2 * l.length
  | [], t, s => by simp [pallOf]
  | n :: r, t, s => by
    have h1 := pflush_left (E := E) t s n
    have h2 := pallOf_left D E r (pflush D t s n).1 (pflush D t s n).2.1
    unfold pallOf
    split
    · simp only [List.length_cons]; omega
    · simp only [List.length_cons]; omega
/-- What has been done, and what is still to be. -/
theorem pallOf_ks (D : Dv σ) : ∀ (l : List Int) (t : σ) (s : PS), (pallOf D l t s).2.1.ks = s.ks ∧ (pallOf D l t s).2.1.ck = s.ck
  | [], t, s => ⟨rfl, rfl⟩
  | n :: r, t, s => by
    have h1 := pflush_ks D t s n
    have h2 := pallOf_ks D r (pflush D t s n).1 (pflush D t s n).2.1
    unfold pallOf
    split
    · exact h1
    · rw [h2.1, h2.2]; exact h1
set_option maxHeartbeats 1600000 in
theorem all_raw (hA : PAt E w F pb mb bk cap s) (hI : E.I F w t) (hl : 2 * s.ks.length ≤ E.left t) :
    Calls Try.prog 25 #[.pointer (some ⟨pb, 0, none⟩)] w fun e w' => e = .returned (.int .i64 (pall D t s).2.2) ∧ ∃ F', PAt E w' F' pb mb bk cap (pall D t s).2.1 ∧ E.I F' w' (pall D t s).1 ∧ Stp (PG F pb mb bk s) w (PG F' pb mb bk (pall D t s).2.1) w' := by
  have hmf : ∀ (fn : Fn) (first cap : Array Value) (w : World), (Instr.makeFunc fn first cap).run Try.prog w = .ok (.func fn first cap) w := fun _ _ _ _ => rfl
  have hh := has_raw hA
  have hfew := hA.ok.few
  obtain ⟨q, hq⟩ : ∃ q, q = pall D t s := ⟨_, rfl⟩
  rw [← hq]
  replace hh := Lib.hid hh
  replace hq := Lib.hid hq
  replace hA := Lib.hid hA
  replace hI := Lib.hid hI
  go_enter Try.func25, Try.ntmps25
  go_wp2_with fail
  refine hh.out.mono ?_
  rintro e w1 ⟨v, rfl, ho, hb⟩
  obtain ⟨a1, c1, rfl, hx1⟩ := IAt.own ho
  have hA1 := Lib.hid (hA.out.more hb)
  have hI1 := Lib.hid (E.kept hI.out (Chg.of_below (S := fun _ => False) hb) (fun _ _ => id))
  have hS1 : Stp (PG F pb mb bk s) w (PG F pb mb bk s) w1 := ⟨Chg.of_below hb, fun _ e => .inl e⟩
  have hbs := hb.size
  have hlt1 : ∀ k, PG F pb mb bk s k → k < w.heap.size := fun k hk => by
    obtain ⟨l1, l2, l3⟩ := hA.out.lt
    rcases hk with rfl | rfl | ⟨x, hx, rfl⟩ | hk
    · exact l1
    · exact l2
    · exact l3 x hx
    · exact E.lt hI.out k hk
  replace hb := Lib.hid hb
  replace hS1 := Lib.hid hS1
  replace hlt1 := Lib.hid hlt1
  have ho2 := Lib.hid ho
  replace hx1 := Lib.hid hx1
  clear ho hh
  go_wp2
  go_loopg [14] s.ks.length (fun g i wr => ∃ (k : Nat) (F' : Nat → Prop) (t' : σ) (s' : PS), g + k = s.ks.length ∧ i = .int .i64 k ∧ Aside (2 * (s.ks.length - k) ≤ E.left t' ∧ q = pallOf D (s.ks.drop k) t' s' ∧ s'.ks = s.ks ∧ PAt E wr F' pb mb bk cap s' ∧ E.I F' wr t' ∧ IAt wr a1 s.ks ∧ Stp (PG F pb mb bk s) w1 (PG F' pb mb bk s') wr))
  case atStart => exact ⟨0, F, t, s, rfl, rfl, hl, by rw [List.drop_zero]; exact hq.out, rfl, hA1.out, hI1.out, hx1.out, Stp.refl _ _⟩
  case round =>
    obtain ⟨k, F', t', s', hk, rfl, hI⟩ := hrel
    obtain ⟨i1, i2, i3, i4, i5, i6, i7⟩ := hI.out
    by_cases hlt : k < s.ks.length
    · obtain ⟨b2, o2, rfl, hc2⟩ := i6 k hlt
      have hblt := World.block_lt_of_cell? wr _ hc2
      obtain ⟨x, hx⟩ : ∃ x, x = s.ks[k] := ⟨_, rfl⟩
      rw [← hx] at hc2
      have hxw : (Lit.int .i64 x).wf = true := i4.ok.wf x (by rw [i3, hx]; exact List.getElem_mem hlt)
      have hf := flush_raw x hxw i4 i5 (by omega)
      have hdr : s.ks.drop k = x :: s.ks.drop (k + 1) := by rw [hx]; exact List.drop_eq_getElem_cons hlt
      rw [hdr] at i2
      have hpk := pflush_ks D t' s' x
      have hpl := pflush_left (E := E) t' s' x
      have hsz := i7.1.size
      have hblk : b2 < w1.heap.size := by
        obtain ⟨b3, o3, e3, hc3⟩ := hx1.out k hlt
        cases e3
        exact World.block_lt_of_cell? w1 _ hc3
      have hnew : w.heap.size ≤ b2 := by
        rcases ho2.out.2 with ⟨e1, e2⟩ | ⟨g6, c6, cur6, e1, hg6, _⟩
        · cases e1
        · cases e1; exact hg6
      have hno : ¬ PG F' pb mb bk s' b2 := fun e => (i7.2 b2 e).elim (fun e2 => by have := hlt1.out b2 e2; omega) (fun e2 => by omega)
      have J : Hid (2 * (s.ks.length - k) ≤ E.left t' ∧ IAt wr (some ⟨b2, o2, none⟩) s.ks ∧ Stp (PG F pb mb bk s) w1 (PG F' pb mb bk s') wr ∧ s'.ks = s.ks ∧ ¬ PG F' pb mb bk s' b2) := Lib.hid ⟨i1, i6, i7, i3, hno⟩
      obtain ⟨p, hp⟩ : ∃ p, p = pflush D t' s' x := ⟨_, rfl⟩
      rw [← hp] at hf hpk hpl
      have i2' : q = if p.2.2 ≠ 0 then p else pallOf D (s.ks.drop (k + 1)) p.1 p.2.1 := by rw [i2, hp]; rfl
      replace i2' := Lib.hid i2'
      replace hf := Lib.hid hf
      replace hp := Lib.hid hp
      replace hpk := Lib.hid hpk
      replace hpl := Lib.hid hpl
      replace hx := Lib.hid hx
      clear hI i1 i2 i3 i4 i5 i6 i7 hno hdr hsz hblk hnew
      by_cases h0 : p.2.2 = 0
      · have i3' := i2'.out
        rw [if_neg (by simpa using h0)] at i3'
        replace i3' := Lib.hid i3'
        go_wp2_with fail
        refine hf.out.mono ?_
        rw [h0]
        rintro e w2 ⟨rfl, F2, hA2, hI2, hS2⟩
        have hrow := J.out.2.1.chg hS2.1 J.out.2.2.2.2
        have hS3 := J.out.2.2.1.trans hS2
        have hA3 := Lib.hid hA2
        have hI3 := Lib.hid hI2
        replace hrow := Lib.hid hrow
        replace hS3 := Lib.hid hS3
        clear hA2 hI2 hS2
        go_wp2
        go_roundg (s.ks.length - (k + 1))
        case rel => exact ⟨k + 1, F2, p.1, p.2.1, by omega, by go_num, by have := J.out.1; have := hpl.out; omega, i3'.out, by rw [hpk.out.1]; exact J.out.2.2.2.1, hA3.out, hI3.out, hrow.out, hS3.out⟩
        case measure => omega
      · have i3' := i2'.out
        rw [if_pos h0] at i3'
        replace i3' := Lib.hid i3'
        have hb0 : (p.2.2 != 0) = true := by simpa using h0
        go_wp2_with fail
        refine hf.out.mono ?_
        rintro e w2 ⟨rfl, F2, hA2, hI2, hS2⟩
        have hS3 := J.out.2.2.1.trans hS2
        have hA3 := Lib.hid hA2
        have hI3 := Lib.hid hI2
        replace hS3 := Lib.hid hS3
        clear hA2 hI2 hS2
        go_wp2
        go_ret
        rw [i3'.out]
        exact ⟨rfl, F2, hA3.out, hI3.out, hS1.out.trans hS3.out⟩
    · obtain rfl : k = s.ks.length := by omega
      rw [List.drop_length] at i2
      have hqq : q = (t', s', 0) := i2
      replace hqq := Lib.hid hqq
      have j4 := Lib.hid i4
      have j5 := Lib.hid i5
      have j7 := Lib.hid i7
      clear hI i1 i2 i4 i5 i6 i7
      go_wp2
      go_ret
      rw [hqq.out]
      exact ⟨rfl, F', j4.out, j5.out, hS1.out.trans j7.out⟩
end
end Go.Proofs.Ytlbeaoglkhfdcaa
