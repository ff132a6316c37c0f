/- What Write of a disk leaves where it writes. No condition. -/
import Derived.Test.YtnphpnbliigfbaaDr
namespace Go.Proofs.Ytnphpnbliigfbaa
open Go.RowKit
theorem Try.infoWr : (Try.prog.info? 62).map (fun i => (i.zero, i.size, i.bytes)) = some (some (.agg #[.int .i64 0, .string ByteArray.empty]), 2, 24) := by kernel_rfl
section
variable {w : World} {B : Nat} {rs rp : Option Nat} {m : Nat} {d : Dk}

/-- Behind the append onto the pending writes, the store, the map's store: the disk. -/
theorem DAt.append {w1 w' : World} {vs vp v' : Value} {k : Nat} {s : List UInt8} {n : Nat} (ok : d.Ok) (hrs : vs.ownBlock = rs) (hrp : vp.ownBlock = rp)
    (hb : w.heap[B]? = some (.cells #[vs, vp, .map (some m), .bool d.stops, .int .i64 (d.after : Int), .bool d.dead] 59 (0, 0)))
    (hs : w.ownsRow 0 9 1 vs d.safe.length (scells d.safe)) (hp : w.ownsRow 0 62 2 vp d.pend.length (pcells d.pend)) (hm : SMap w m d.pend.length (latest d.pend))
    (hc : Chg (fun _ => False) w w1) (hown : w'.ownsRow 0 62 2 v' n (pcells d.pend ++ pcells [(k, s)])) (hgrow : w1.grownBy w' vp.ownBlock) (hrow : v'.ownBlock = vp.ownBlock ∨ ∀ k, v'.ownBlock = some k → w1.heap.size ≤ k)
    (hk : k < d.safe.length) (hsl : s.length = 64) (hmany : d.pend.length < 1000000) :
    ((∃ ao l c, v' = .slice ao l c) ∧ w'.cell? ⟨B, 1, none⟩ = some vp ∧ w'.cell? ⟨B, 2, none⟩ = some (.map (some m)) ∧ w'.frozen? ⟨B, 1, none⟩ = false ∧ B < w'.heap.size) ∧
    SMap (w'.setCell ⟨B, 1, none⟩ v') m d.pend.length (latest d.pend) ∧
    ∀ w2, SMap w2 m (d.pend.length + 1) (fun j => if j = k then some s else latest d.pend j) → (w'.setCell ⟨B, 1, none⟩ v').grownBy w2 (some m) → DPost w w2 B rs rp m { d with pend := d.pend ++ [(k, s)] } := by
  have hD : DAt w B rs rp m d := ⟨ok, vs, vp, hrs, hrp, hb, hs, hp, hm⟩
  have hne := hD.own_ne
  have hne2 := hD.rows_ne
  subst hrs; subst hrp
  have hB := lt_of hb
  have c1 : Chg (fun j => vp.ownBlock = some j) w w' := (hc.mono (fun _ _ h => h.elim)).grown hgrow (fun j _ h => h)
  have hb' := c1.heap hb hne.2.1
  have hs' := c1.row hs (fun j hj => hne2.1 j hj)
  have hm' := hm.chg c1 hne2.2.2
  have hv' : v'.ownBlock ≠ some B := by
    intro e
    obtain ⟨cur, hcur⟩ := own_block hown e
    rw [hb'] at hcur; simp at hcur
  have hvm : v'.ownBlock ≠ some m := by
    intro e
    obtain ⟨cur, hcur⟩ := own_block hown e
    obtain ⟨es, cl, hmb⟩ := hm'.block
    rw [hmb] at hcur; simp at hcur
  have hvs : ∀ j, vs.ownBlock = some j → v'.ownBlock ≠ some j := by
    intro j e e'
    obtain ⟨cur, hcur⟩ := own_block hown e'
    obtain ⟨cur', hcur'⟩ := own_block hs' e
    rw [hcur] at hcur'; simp at hcur'
  obtain ⟨ao, l, c, hform, hln⟩ := own_form hown
  have c2 : Chg (fun j => vp.ownBlock = some j ∨ j = B) w (w'.setCell ⟨B, 1, none⟩ v') := (c1.mono (fun _ _ h => .inl h)).setCell (a := ⟨B, 1, none⟩) (fun _ => .inr rfl) v'
  have hm2 : SMap (w'.setCell ⟨B, 1, none⟩ v') m d.pend.length (latest d.pend) := hm.chg c2 (fun h => by rcases h with h | h; exact hne2.2.2 h; exact hne.2.2 h)
  refine ⟨⟨⟨ao, l, c, hform⟩, cell_of hb' rfl, cell_of hb' rfl, free_of hb', lt_of hb'⟩, hm2, fun w2 hs2 hg2 => ?_⟩
  have c3 : Chg (fun j => j = m) (w'.setCell ⟨B, 1, none⟩ v') w2 := (Chg.refl _ _).grown hg2 (fun j _ h => by cases h; rfl)
  have hn : n = d.pend.length + 1 := by
    have := hown.1
    simp only [List.length_append, pcells_length, List.length_singleton] at this
    omega
  subst hn
  refine ⟨v'.ownBlock, ⟨⟨ok.few, ok.size, ?_, ok.after, by simp; omega⟩, vs, v', rfl, rfl, ?_, ?_, ?_, ?_⟩, ?_, ?_⟩
  · intro p hp'
    rcases List.mem_append.1 hp' with hp' | hp'
    · exact ok.pend p hp'
    · have := List.mem_singleton.1 hp'
      subst this
      exact ⟨hk, hsl⟩
  · have := heap_setCell (i := 1) hb' v'
    have := c3.heap this (fun e => hne.2.2 e.symm)
    simpa using this
  · exact c3.row (ownsRow_setCell_other hs' hne.1 v') (fun j hj e => hne2.2.1 (by rw [hj, e]))
  · rw [List.length_append, pcells_append]
    exact c3.row (ownsRow_setCell_other hown hv' v') (fun j hj e => hvm (by rw [hj, e]))
  · rw [List.length_append]
    exact hs2.congr (fun j => by simp only; rw [latest_snoc])
  · exact (c2.mono (fun j _ h => by rcases h with h | h; exact .inr (.inr (.inl h)); exact .inl h)).trans c3 (fun j _ e => .inr (.inr (.inr e)))
  · rcases hrow with h | h
    · exact .inl h
    · exact .inr fun j hj => Nat.le_trans hc.size (h j hj)

theorem DPost.trans {w1 w2 : World} {rp1 : Option Nat} {d1 d2 : Dk} (_a : DAt w1 B rs rp1 m d1) (c : Chg (DS B rs rp m) w w1) (r : RowOk w rp rp1) (h : DPost w1 w2 B rs rp1 m d2) : DPost w w2 B rs rp m d2 := by
  obtain ⟨rp2, a2, c2, r2⟩ := h
  refine ⟨rp2, a2, c.trans c2 ?_, ?_⟩
  · intro k hk hs
    rcases hs with hs | hs | hs | hs
    · exact .inl hs
    · exact .inr (.inl hs)
    · rcases r with r | r
      · exact .inr (.inr (.inl (r ▸ hs)))
      · have := r k hs; omega
    · exact .inr (.inr (.inr hs))
  · rcases r2 with rfl | r2
    · exact r
    · exact .inr fun k hk => Nat.le_trans c.size (r2 k hk)

theorem new_two (w : World) (a b : Value) (b' : Nat) {t : TypeId} (h : b' = w.heap.size) : ∀ j u, [a, b][j]? = some u → (w.alloc (.cells #[a, b] t)).cell? ((⟨b', 0, none⟩ : Addr).add j) = some u := by
  intro j u hj
  subst h
  rw [Addr.add_lit, Nat.zero_add]
  exact cell_of (heap_alloc_new w _) (by simpa using hj)

set_option maxHeartbeats 800000 in
theorem kWrite_ok (n : Nat) (s : List UInt8) (h : DAt w B rs rp m d) (hd : d.dead = false) (hin : n < d.safe.length) (hs : s.length = 64) (h1 : ¬ (d.stops = true ∧ d.after = 0)) (hmany : d.pend.length < 1000000) :
    Calls Try.prog 14 #[.pointer (some ⟨B, 0, none⟩), .int .i64 n, .string (mk s)] w fun e w' => e = .returned (.int .i64 0) ∧ DPost w w' B rs rp m { d with after := d.after - 1, pend := d.pend ++ [(n, s)] } := by
  obtain ⟨i, hi, hz0, hz1, hz2⟩ := info_parts Try.infoWr
  have C := Lib.hid (kDead h)
  have D := Lib.hid (kis n h)
  rw [hd] at C
  have hin' : isIn d n = true := by simp [isIn]; exact hin
  rw [hin'] at D
  have hsz := mk_size s
  have hne : (((mk s).size : Int) != 64) = false := by rw [bne_eq_false_iff_eq]; omega
  obtain ⟨sa, cs, ap, cp, c0, c1, c2, c3, c4, c5, hf, hB⟩ := h.cells
  have f4 := hf 4
  have ha := h.1.after
  have few := h.1.few
  have hg : d.stops = false ∨ ((d.after : Int) == 0) = false := by
    cases hst : d.stops
    · exact .inl rfl
    · right; rw [beq_eq_false_iff_ne]; intro e; exact h1 ⟨hst, by omega⟩
  clear hsz hin' hf c0 c5 h1 hd
  obtain ⟨st, hst⟩ : ∃ st, st = d.stops := ⟨_, rfl⟩
  obtain ⟨af, haf⟩ : ∃ af, af = d.after := ⟨_, rfl⟩
  obtain ⟨q, hq⟩ : ∃ q : Int, q = ((d.after - 1 : Nat) : Int) := ⟨_, rfl⟩
  have h4 : DAt (w.setCell ⟨B, 4, none⟩ (.int .i64 q)) B rs rp m { d with after := d.after - 1 } := by rw [hq]; exact h.set4 (d.after - 1) (by omega)
  have ch4 : Chg (DS B rs rp m) w (w.setCell ⟨B, 4, none⟩ (.int .i64 q)) := Chg.cellB rs rp m w 4 _
  rw [← hst] at c3 hg
  rw [← haf] at c4 hg ha hq
  replace hst := Lib.hid hst
  replace haf := Lib.hid haf
  have hcell4 : ∀ v, (w.setCell ⟨B, 4, none⟩ v).cell? ⟨B, 1, none⟩ = some (.slice ap d.pend.length cp) := fun v => by rw [World.cell?_setCell_other _ _ _ _ (by simp)]; exact c1
  obtain ⟨ok4, vs, vp, hrs, hrp, hb4, hs4, hp4, hm4⟩ := id h4
  replace h4 := Lib.hid h4
  replace ch4 := Lib.hid ch4
  simp only at hb4 hs4 hp4 hm4
  have hvp : vp = .slice ap d.pend.length cp := by
    have e := cell_of (i := 1) hb4 rfl
    rw [hcell4] at e
    exact (Option.some.inj e).symm
  subst hvp
  have hB4 := Lib.hid hb4
  clear hb4 h c1
  have HS4 := Lib.hid hs4
  have HP4 := Lib.hid hp4
  have HM4 := Lib.hid hm4
  clear hs4 hp4 hm4
  cases st
  · by_cases hz : af = 0
    · subst hz
      obtain rfl : q = 0 := by omega
      clear hg hq
      go_enter Try.func14, Try.ntmps14
      go_wp2_with (first | (go_at_call 21; refine C.out.mono ?_; rintro e w' ⟨rfl, rfl⟩) | (go_at_call 32; refine D.out.mono ?_; rintro e w' ⟨rfl, rfl⟩) | (at_builtin; refine wpList_append_own' rfl (.tmp 47) (.tmp 51) 57 rfl 0 62 i (.agg #[.int .i64 0, .string ByteArray.empty]) 2 24 Try.underlying57 hi hz0 hz1 hz2 rfl (by decide) _ _ _ rfl (HP4.out.alloc _) ⟨w.heap.size, 0, none⟩ 1 1 (pcells [(n, s)]) rfl rfl (new_two _ _ _ _ (by simp)) (by intro u hu; simp [pcells] at hu; rcases hu with rfl | rfl <;> rfl) (by unfold maxLen; omega) (by omega) (Nat.zero_le _) ?_; intro v' w' hown hgrow hrow; have z := DAt.append (d := { d with after := d.after - 1 }) ok4 hrs hrp hB4.out HS4.out HP4.out HM4.out ((Chg.refl _ _).alloc _) hown hgrow hrow hin hs hmany; obtain ⟨⟨⟨ao', l', c', rfl⟩, e1, e2, e3, e4⟩, hmap, hfin⟩ := z; have HMAP := Lib.hid hmap; have HFIN := Lib.hid hfin; clear hown hgrow hrow hmap hfin) | (at_mapUpdate; refine wpList_smap_put rfl (.tmp 58) (.tmp 59) (.tmp 60) rfl rfl HMAP.out (Nat.lt_of_lt_of_le hmany (by unfold maxLen; omega)) n s rfl rfl (by omega) (by rw [hs]; unfold maxLen; omega) ?_; intro w2 hm2 hg2; have fin := HFIN.out w2 hm2 hg2; clear hm2 hg2))
      go_ret
      exact ⟨rfl, DPost.trans h4.out ch4.out (.inl rfl) fin⟩
    · obtain ⟨k, rfl⟩ : ∃ k, af = k + 1 := ⟨af - 1, by omega⟩
      obtain rfl : q = (k : Int) := by omega
      clear hg hq hz
      go_enter Try.func14, Try.ntmps14
      go_wp2_with (first | (go_at_call 21; refine C.out.mono ?_; rintro e w' ⟨rfl, rfl⟩) | (go_at_call 32; refine D.out.mono ?_; rintro e w' ⟨rfl, rfl⟩) | (at_builtin; refine wpList_append_own' rfl (.tmp 47) (.tmp 51) 57 rfl 0 62 i (.agg #[.int .i64 0, .string ByteArray.empty]) 2 24 Try.underlying57 hi hz0 hz1 hz2 rfl (by decide) _ _ _ rfl (HP4.out.alloc _) ⟨w.heap.size, 0, none⟩ 1 1 (pcells [(n, s)]) rfl rfl (new_two _ _ _ _ (by simp)) (by intro u hu; simp [pcells] at hu; rcases hu with rfl | rfl <;> rfl) (by unfold maxLen; omega) (by omega) (Nat.zero_le _) ?_; intro v' w' hown hgrow hrow; have z := DAt.append (d := { d with after := d.after - 1 }) ok4 hrs hrp hB4.out HS4.out HP4.out HM4.out ((Chg.refl _ _).alloc _) hown hgrow hrow hin hs hmany; obtain ⟨⟨⟨ao', l', c', rfl⟩, e1, e2, e3, e4⟩, hmap, hfin⟩ := z; have HMAP := Lib.hid hmap; have HFIN := Lib.hid hfin; clear hown hgrow hrow hmap hfin) | (at_mapUpdate; refine wpList_smap_put rfl (.tmp 58) (.tmp 59) (.tmp 60) rfl rfl HMAP.out (Nat.lt_of_lt_of_le hmany (by unfold maxLen; omega)) n s rfl rfl (by omega) (by rw [hs]; unfold maxLen; omega) ?_; intro w2 hm2 hg2; have fin := HFIN.out w2 hm2 hg2; clear hm2 hg2))
      go_ret
      exact ⟨rfl, DPost.trans h4.out ch4.out (.inl rfl) fin⟩
  · obtain ⟨k, rfl⟩ : ∃ k, af = k + 1 := ⟨af - 1, by
      rcases hg with hg | hg
      · cases hg
      · rw [beq_eq_false_iff_ne] at hg; omega⟩
    obtain rfl : q = (k : Int) := by omega
    have hg' : (((k + 1 : Nat) : Int) == 0) = false := by rw [beq_eq_false_iff_ne]; omega
    clear hg hq
    go_enter Try.func14, Try.ntmps14
    go_wp2_with (first | (go_at_call 21; refine C.out.mono ?_; rintro e w' ⟨rfl, rfl⟩) | (go_at_call 32; refine D.out.mono ?_; rintro e w' ⟨rfl, rfl⟩) | (at_builtin; refine wpList_append_own' rfl (.tmp 47) (.tmp 51) 57 rfl 0 62 i (.agg #[.int .i64 0, .string ByteArray.empty]) 2 24 Try.underlying57 hi hz0 hz1 hz2 rfl (by decide) _ _ _ rfl (HP4.out.alloc _) ⟨w.heap.size, 0, none⟩ 1 1 (pcells [(n, s)]) rfl rfl (new_two _ _ _ _ (by simp)) (by intro u hu; simp [pcells] at hu; rcases hu with rfl | rfl <;> rfl) (by unfold maxLen; omega) (by omega) (Nat.zero_le _) ?_; intro v' w' hown hgrow hrow; have z := DAt.append (d := { d with after := d.after - 1 }) ok4 hrs hrp hB4.out HS4.out HP4.out HM4.out ((Chg.refl _ _).alloc _) hown hgrow hrow hin hs hmany; obtain ⟨⟨⟨ao', l', c', rfl⟩, e1, e2, e3, e4⟩, hmap, hfin⟩ := z; have HMAP := Lib.hid hmap; have HFIN := Lib.hid hfin; clear hown hgrow hrow hmap hfin) | (at_mapUpdate; refine wpList_smap_put rfl (.tmp 58) (.tmp 59) (.tmp 60) rfl rfl HMAP.out (Nat.lt_of_lt_of_le hmany (by unfold maxLen; omega)) n s rfl rfl (by omega) (by rw [hs]; unfold maxLen; omega) ?_; intro w2 hm2 hg2; have fin := HFIN.out w2 hm2 hg2; clear hm2 hg2))
    go_ret
    exact ⟨rfl, DPost.trans h4.out ch4.out (.inl rfl) fin⟩

theorem kWrite (n : Int) (s : List UInt8) (h : DAt w B rs rp m d) (hmany : d.pend.length < 1000000) :
    Calls Try.prog 14 #[.pointer (some ⟨B, 0, none⟩), .int .i64 n, .string (mk s)] w fun e w' => e = .returned (.int .i64 (dwrite d n s).2) ∧ DPost w w' B rs rp m (dwrite d n s).1 := by
  cases hd : d.dead
  · cases hin : isIn d n
    · refine (kWrite_no n s h hd (.inl hin)).mono fun e w' ⟨he, hw⟩ => ⟨he, ?_⟩
      subst hw
      rw [show (dwrite d n s).1 = d by simp [dwrite, hd, hin]]
      exact DPost.refl h
    · by_cases hs : s.length = 64
      · have hn : 0 ≤ n ∧ n < d.safe.length := by simpa [isIn] using hin
        by_cases h1 : d.stops = true ∧ d.after = 0
        · have e1 : dwrite d n s = ({ d with dead := true }, 10) := by simp only [dwrite, hd, hin, hs]; simp [h1]
          rw [e1]
          exact kWrite_stop n s h hd hin hs h1.1 h1.2
        · have e1 : dwrite d n s = ({ d with after := d.after - 1, pend := d.pend ++ [(n.toNat, s)] }, 0) := by simp only [dwrite, hd, hin, hs]; simp [h1]
          rw [e1]
          obtain ⟨k, rfl⟩ := Int.eq_ofNat_of_zero_le hn.1
          exact kWrite_ok k s h hd (by omega) hs h1 hmany
      · refine (kWrite_no n s h hd (.inr hs)).mono fun e w' ⟨he, hw⟩ => ⟨he, ?_⟩
        subst hw
        rw [show (dwrite d n s).1 = d by simp [dwrite, hd, hin, hs]]
        exact DPost.refl h
  · refine (kWrite_dead n s h hd).mono fun e w' ⟨he, hw⟩ => ?_
    subst hw
    rw [show dwrite d n s = (d, 10) by simp [dwrite, hd]]
    exact ⟨he, DPost.refl h⟩
end
end Go.Proofs.Ytnphpnbliigfbaa
