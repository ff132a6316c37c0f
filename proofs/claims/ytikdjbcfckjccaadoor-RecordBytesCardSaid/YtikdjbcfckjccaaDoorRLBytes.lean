/- The walk of the law RecordBytes. No condition but the table of spaces. -/
import Derived.Test.YtikdjbcfckjccaaDoorRecF
import Derived.Deep.DeepCutAuto
import Derived.Deep.CutBlock
namespace Go.Proofs.YtikdjbcfckjccaaDoor
open Go.RowKit
attribute [local go_sem] mk_size
def Fit (a b : List UInt8) : Prop := a.length + b.length ≤ 1000000000000000
@[local go_sem high] theorem cat_ok (a b : List UInt8) (h : Fit a b) (w : World) : (Op.stringOp .add (mk a) (mk b)).run Tryd.prog w = .ok (.string (mk (a ++ b))) w := by
  unfold Fit at h
  have := run_string_add_sum (P := Tryd.prog) (w := w) (mk a) (mk b) (by rw [mk_size, mk_size]; omega)
  rw [mk_append] at this
  exact this
theorem isRec_zero (w : World) : RecAt w zrec (.slice none 0 0) (.slice none 0 0) (.slice none 0 0) (.slice none 0 0) Rec.zero := (own_zrec w 0).at_
theorem small_zero : Small Rec.zero := ⟨by decide, by decide, by decide, by decide, by intro t ht; cases ht⟩
theorem get_L {w3 w : World} (b : List UInt8) (hT : Tab w3) (h : Below w3.heap.size w3 w) : Calls Tryd.prog 11 #[.string (mk b)] w (GetLet b w) := (recget_any b w (hT.more h)).mono fun _ _ h => getLet_of h
set_option maxRecDepth 100000 in
set_option maxHeartbeats 12800000 in
theorem recordBytes_walk (sb : ByteArray) (v : Value) (r : Rec) (n : Int) (sm : ByteArray) (w : World) (hT : Tab w) (hs1 : sb.size ≤ 140737488351232) (hv : IsRec w v r) (w0 : (Lit.int .i64 n).wf = true) (hs2 : sm.size ≤ 140737488351232) : Calls Tryd.prog 3 #[.string sb, v, .int .i64 n, .string sm] w fun e w' => e = .returned (.bool true) ∧ Below w.heap.size w w' := by
  obtain ⟨b, rfl⟩ : ∃ b, sb = mk b := ⟨_, (mk_of _).symm⟩
  obtain ⟨more, rfl⟩ : ∃ b, sm = mk b := ⟨_, (mk_of _).symm⟩
  rw [mk_size] at hs1 hs2
  obtain ⟨⟨vp, vt, vx, vd, hR⟩, hl1, hl2⟩ := hv
  obtain ⟨a1, c1, a2, c2, a3, c3, a4, c4, rfl, rfl, rfl, rfl, rfl⟩ := recAt_form hR
  have hB0 := RB.start hR
  have cL := light_any _ _ _ _ _ r _ hB0.at_ hl1 hl2
  replace cL := Lib.hid cL
  replace hB0 := Lib.hid hB0
  clear hR
  by_cases k1 : (600 : Int) < b.length
  · go_enter Tryd.func3, Tryd.ntmps3
    go_wp2_with fail
    refine (alive_true _ (hT.more hB0.out.bel)).mono ?_
    rintro e w2 ⟨rfl, hb2⟩
    have hb2' := Lib.hid (hB0.out.bel.trans (hb2.mono hB0.out.bel.size))
    clear hb2
    go_wp2
    go_ret
    exact ⟨rfl, hb2'.out⟩
  go_enter Tryd.func3, Tryd.ntmps3
  go_wp2_with fail
  refine cL.out.mono ?_
  rintro e w1 ⟨bb, rfl, hbb, hb1⟩
  have hB1 := hB0.out.more hb1
  have hT1 := hT.more hB1.bel
  clear hb1 hB0 cL
  replace hB1 := Lib.hid hB1
  replace hbb := Lib.hid hbb
  cases bb with
  | false =>
    go_wp2_with fail
    refine (alive_true _ hT1).mono ?_
    rintro e w2 ⟨rfl, hb2⟩
    have hb2' := Lib.hid (hB1.out.bel.trans (hb2.mono hB1.out.bel.size))
    clear hb2
    go_wp2
    go_ret
    exact ⟨rfl, hb2'.out⟩
  | true =>
    by_cases k2 : (40 : Int) < more.length
    · go_wp2_with fail
      refine (alive_true _ hT1).mono ?_
      rintro e w2 ⟨rfl, hb2⟩
      have hb2' := Lib.hid (hB1.out.bel.trans (hb2.mono hB1.out.bel.size))
      clear hb2
      go_wp2
      go_ret
      exact ⟨rfl, hb2'.out⟩
    go_wp2_with fail
    refine (alive_true _ hT1).mono ?_
    rintro e w2 ⟨rfl, hb2⟩
    have hB2 := hB1.out.more hb2
    have hT2 := hT.more hB2.bel
    replace hB2 := Lib.hid hB2
    clear hb2 hT1 hB1 hbb
    go_wp2_with fail
    refine (get_L b hT2 (Below.refl _ _)).mono ?_
    rintro e w3 ⟨y, p1, q1, p2, q2, p3, q3, p4, q4, pf, rfl, hRy, hpt, hpf, hb3⟩
    have hal : Below w3.heap.size w3 (w3.alloc (.cells #[.int .i64 y.kind, .int .i64 y.tx, .int .i64 y.prev, .int .i64 y.next, .string (mk y.key), .bool y.had, .string (mk y.old.key), .string (mk y.old.val), .int .i64 y.old.blob, .int .i64 y.old.size, .slice p1 y.pages.length q1, .slice p2 y.pats.length q2, .slice p3 y.txs.length q3, .slice p4 y.dirty.length q4] 29)) := (Below.refl _ _).alloc (Nat.le_refl _) _
    have hB3 := (hB2.out.more hb3).more hal
    have hT3 := hT.more hB3.bel
    have hRx := hRy.at_.more hal
    have cP := put_any _ _ _ _ _ y _ hT3 hRx
    have cZ := sameR_any _ _ _ _ _ zrec _ _ _ _ y Rec.zero _ hRx (isRec_zero _)
    clear hal hRy hRx hT3 hb3 hB2 hT2
    replace hB3 := Lib.hid hB3
    replace hpt := Lib.hid hpt
    replace hpf := Lib.hid hpf
    replace cP := Lib.hid cP
    replace cZ := Lib.hid cZ
    go_upto_if 42 with fail
    go_cut [8] (fun z wr => Aside (RB w wr #[.int .i64 r.kind, .int .i64 r.tx, .int .i64 r.prev, .int .i64 r.next, .string (mk r.key), .bool r.had, .string (mk r.old.key), .string (mk r.old.val), .int .i64 r.old.blob, .int .i64 r.old.size, .slice a1 r.pages.length c1, .slice a2 r.pats.length c2, .slice a3 r.txs.length c3, .slice a4 r.dirty.length c4] (.slice a1 r.pages.length c1) (.slice a2 r.pats.length c2) (.slice a3 r.txs.length c3) (.slice a4 r.dirty.length c4) r))
    case first =>
      cases pf with
      | true =>
        obtain ⟨hoy, hey⟩ := hpt.out rfl
        have cP2 := cP.out
        rw [(recOk_iff y).2 hoy, if_pos rfl, hey] at cP2
        replace cP2 := Lib.hid cP2
        replace hoy := Lib.hid hoy
        replace hey := Lib.hid hey
        clear cP cZ
        go_wp2_with fail
        refine cP2.out.mono ?_
        rintro e w5 ⟨rfl, hb5⟩
        have hB5 := Lib.hid (hB3.out.more hb5)
        clear hb5
        go_wp2
        go_meet
        exact hB5.out
      | false =>
        obtain ⟨rfl, _⟩ := hpf.out rfl
        have cZ2 := cZ.out small_zero
        rw [decide_eq_true (rfl : Rec.zero = Rec.zero)] at cZ2
        replace cZ2 := Lib.hid cZ2
        clear cP cZ
        go_wp2_with fail
        refine cZ2.out.mono ?_
        rintro e w5 ⟨rfl, hb5⟩
        have hB5 := Lib.hid (hB3.out.more hb5)
        clear hb5
        go_wp2
        go_meet
        exact hB5.out
    case rest =>
    have hB5 := hcut.out
    clear hcut hB3 cP cZ hpt hpf
    have hT5 := hT.more hB5.bel
    have cP := put_any _ _ _ _ _ r wc hT5 hB5.at_
    obtain ⟨ok, hok⟩ : ∃ ok, ok = recOk r := ⟨_, rfl⟩
    rw [← hok] at cP
    obtain ⟨⟨d0, d1, d2, d3, d4, d5, d6⟩, ⟨d7, d8, d9, d10, d11, d12, d13⟩, hl9⟩ := rec_cells hB5.box
    replace hB5 := Lib.hid hB5
    replace cP := Lib.hid cP
    clear hT5
    go_wp2_with fail
    refine cP.out.mono ?_
    rintro e w6 ⟨rfl, hb6⟩
    have hB6 := hB5.out.more hb6
    clear hB5 hb6 d0 d1 d2 d3 d4 d5 d6 d7 d8 d9 d10 d11 d12 d13 hl9 cP
    cases ok with
    | false =>
      have hB6' := Lib.hid hB6
      replace hok := Lib.hid hok
      clear hB6
      rw [if_neg (by decide)]
      have hnn : (mk [] : ByteArray) = ⟨#[]⟩ := rfl
      rw [hnn]
      go_wp2
      go_ret
      exact ⟨rfl, hB6'.out.bel⟩
    | true =>
      have hro := (recOk_iff r).1 hok.symm
      have hpos : 0 < (enc r).length := by rw [enc_length]; omega
      have hlen := enc_le hro
      rw [if_pos rfl]
      obtain ⟨bs, hbs⟩ : ∃ bs, bs = enc r := ⟨_, rfl⟩
      rw [← hbs] at hpos hlen ⊢
      obtain ⟨L, hL⟩ : ∃ L, L = bs.length := ⟨_, rfl⟩
      have hLz : ((L : Int) == 0) = false := by rw [beq_eq_false_iff_ne]; omega
      have hms : (mk bs).size = L := by rw [mk_size, hL]
      obtain ⟨j, hj, hjL⟩ : ∃ j : Nat, (n.tmod L + L).tmod L = (j : Int) ∧ j < L := by
        have h1 := Int.lt_tmod_of_pos n (show (0 : Int) < L by omega)
        have h2 := Int.tmod_lt_of_pos n (show (0 : Int) < L by omega)
        have h3 := Int.tmod_eq_emod_of_nonneg (a := n.tmod L + L) (b := L) (by omega)
        have h4 := Int.emod_nonneg (n.tmod L + L) (show (L : Int) ≠ 0 by omega)
        have h5 := Int.emod_lt_of_pos (n.tmod L + L) (show (0 : Int) < L by omega)
        exact ⟨((n.tmod L + L).tmod L).toNat, by rw [Int.toNat_of_nonneg (by omega)], by omega⟩
      have hw1 : wrap64 (n.tmod L + L) = n.tmod L + L := by
        have h1 := Int.lt_tmod_of_pos n (show (0 : Int) < L by omega)
        have h2 := Int.tmod_lt_of_pos n (show (0 : Int) < L by omega)
        unfold wrap64; omega
      have hs3 := sl_to bs j j rfl (by omega)
      have hct : Fit bs more := by unfold Fit; omega
      have hjb : j < bs.length := by omega
      have hT6 := hT.more hB6.bel
      replace hB6 := Lib.hid hB6
      replace hok := Lib.hid hok
      replace hro := Lib.hid hro
      replace hbs := Lib.hid hbs
      replace hL := Lib.hid hL
      clear hlen
      go_wp2_with fail
      refine (get_L _ hT6 (Below.refl _ _)).mono ?_
      rintro e w7 ⟨y, p1', q1', p2', q2', p3', q3', p4', q4', pf1, rfl, _, hpt, _, hb7⟩
      obtain rfl : pf1 = false := by
        cases pf1 with
        | false => rfl
        | true =>
          exfalso
          obtain ⟨h1, h2⟩ := hpt rfl
          have h3 := enc_free (l := bs.drop j) h1 hro.out (by rw [h2, ← hbs.out, List.take_append_drop])
          have h4 := congrArg List.length h3
          rw [List.length_drop, List.length_nil] at h4
          omega
      have hB7 := hB6.out.more hb7
      have hT7 : ∀ o, Tab (w7.alloc o) := fun o => (hT.more hB7.bel).more ((Below.refl _ _).alloc (Nat.le_refl _) _)
      replace hT7 := Lib.hid hT7
      replace hB7 := Lib.hid hB7
      clear hpt hb7 hB6 hT6
      go_wp2_with fail
      refine (get_L _ (hT7.out _) (Below.refl _ _)).mono ?_
      rintro e w8 ⟨y2, p1, q1, p2, q2, p3, q3, p4, q4, pf2, rfl, _, hpt, hpf, hb8⟩
      have hbE := Lib.hid (hB7.out.bel.trans ((((Below.refl w7.heap.size w7).alloc (Nat.le_refl _) _).trans (hb8.mono (by simp))).mono hB7.out.bel.size))
      by_cases hm : more = []
      · subst hm
        obtain rfl : pf2 = true := by
          cases pf2 with
          | true => rfl
          | false => exact absurd hbs.out.symm ((hpf rfl).2 r hro.out ∘ fun e => by rw [List.append_nil]; exact e)
        clear hpt hpf hb8
        go_wp2
        go_ret
        exact ⟨rfl, hbE.out.alloc hbE.out.size _⟩
      · obtain rfl : pf2 = false := by
          cases pf2 with
          | false => rfl
          | true =>
            exfalso
            obtain ⟨h1, h2⟩ := hpt rfl
            exact hm (enc_free hro.out h1 (by rw [h2, hbs.out]))
        have hm2 : more.isEmpty = false := by simpa using hm
        have hm3 : (more == []) = false := by simpa using hm
        replace hm := Lib.hid hm
        clear hpt hpf hb8
        go_wp2
        go_ret
        exact ⟨rfl, hbE.out.alloc hbE.out.size _⟩
end Go.Proofs.YtikdjbcfckjccaaDoor
