/- The document's disk in memory: Write, Sync, Crash, Disks. No condition. -/
import Derived.Test.YtnphpnbliigfbaaRD
import Derived.Deep.Upon
namespace Go.Proofs.Ytnphpnbliigfbaa
open Go.RowKit
theorem infoRW : (Try.prog.info? 69).map (fun i => (i.zero, i.size, i.bytes)) = some (some (.agg #[.int .i64 0, .string ByteArray.empty]), 2, 24) := by kernel_rfl
section
variable {P : Program} {ops : Array Oper} {o : Oper} {a : Act} {w : World} {Q : Exit → Act → World → Prop} {rest : List Oper}
theorem wpList_append_plain (hg : o.guard = none) (s x : Operand) (t : TypeId) (hop : o.op = Op.call { callee := Callee.builtin Builtin.append, args := #[s, x], argTypes := #[t, t] })
    (v vx : Value) (hs : a.eval s = v) (hx : a.eval x = vx) (R : Value → World → Prop) (hrun : ∃ v' w', (Builtin.append_ #[t, t] o.type #[v, vx]).run P w = .ok v' w' ∧ R v' w') (hK : ∀ v' w', R v' w' → wpList P ops Q rest (a.put o.dst v') w') : wpList P ops Q (o :: rest) a w := by
  refine wpList_plain hg fun K' hK' => ?_
  obtain ⟨v', w', hr, h⟩ := hrun
  unfold Oper.wp
  simp [execOp, hop, resolve, invoke, builtin, hs, hx, hr, Result.andThen]
  exact hK' _ _ (hK v' w' h)
end
/-- A copy of the pending writes, made anew. -/
theorem run_copy_pend {w : World} (ty : TypeId) (v : Value) (l : List (Nat × List UInt8)) (h : w.ownsRow 0 69 2 v l.length (pcells l)) (hm : l.length ≤ 1000000) :
    ∃ v' w', (Builtin.append_ #[50, 50] ty #[.slice none 0 0, v]).run Try.prog w = .ok v' w' ∧ (w'.ownsRow w.heap.size 69 2 v' l.length (pcells l) ∧ w.grownBy w' none) := by
  obtain ⟨ii, hi0, hz0, hz1, hz2⟩ := info_parts infoRW
  have hn0 : w.ownsRow w.heap.size 69 2 (.slice none 0 0) 0 [] := World.ownsRow_nil _ _ _ _
  rcases h.2 with ⟨rfl, h0⟩ | ⟨g, cap, cur, rfl, _⟩
  · obtain rfl : l = [] := List.eq_nil_of_length_eq_zero h0
    exact ⟨_, w, run_append_nothing w 50 50 ty 69 ii Try.underlying50 hi0 none 0 0 (Nat.le_refl _) _ (Src.ofNil w Try.underlying50 0), hn0, ⟨rfl, rfl, rfl, Nat.le_refl _, fun _ _ _ => rfl⟩⟩
  · rcases Nat.eq_zero_or_pos l.length with h0 | hp
    · obtain rfl : l = [] := List.eq_nil_of_length_eq_zero h0
      exact ⟨_, w, run_append_nothing w 50 50 ty 69 ii Try.underlying50 hi0 none 0 0 (Nat.le_refl _) _ (Src.ofSlice w Try.underlying50 ⟨g, 0, none⟩ 0 cap [] (by simp) (fun j u h => by simp at h) (fun u h => by cases h)), hn0, ⟨rfl, rfl, rfl, Nat.le_refl _, fun _ _ _ => rfl⟩⟩
    · obtain ⟨v', w', h1, h2, h3, h4⟩ := run_append_own' (P := Try.prog) w w.heap.size 50 ty 69 ii (.agg #[.int .i64 0, .string ByteArray.empty]) 2 24 Try.underlying50 hi0 hz0 hz1 hz2 rfl (by decide) (.slice none 0 0) 0 [] hn0 ⟨g, 0, none⟩ l.length cap (pcells l) (pcells_length l) (h.cells (g := g) rfl) (pcells_one l) (by unfold maxLen; omega) (by omega) (Nat.le_refl _)
      refine ⟨v', w', h1, by simpa using h2, h3⟩
section
variable {w : World} {B : Nat} {rs rp : Option Nat} {d : Dk}
theorem RAt.append {w2 : World} {v : Value} {n : Nat} {s : List UInt8} (h : RAt w B rs rp d) (hin : n < d.safe.length) (hs : s.length = 64) (hm : d.pend.length < 1000000) (c : Chg (fun _ => False) w w2) (hv : w2.ownsRow w.heap.size 69 2 v (d.pend.length + 1) (pcells d.pend ++ pcells [(n, s)])) :
    RPost w (w2.setCell ⟨B, 1, none⟩ v) B rs rp { d with pend := d.pend ++ [(n, s)] } := by
  have hne := h.own_ne
  have hB := h.lt B (.inl rfl)
  obtain ⟨ok, vs, vp, hrs, hrp, hb, hs', hp⟩ := h
  have hnew : ∀ k, v.ownBlock = some k → w.heap.size ≤ k := fun k e => (hv.lt k e).1
  refine ⟨v.ownBlock, ⟨⟨ok.few, ok.size, fun p hp => ?_, ok.after, by simp; omega⟩, vs, v, hrs, rfl, ?_, ?_, ?_⟩, ?_, .inr hnew⟩
  · rcases List.mem_append.1 hp with hp | hp
    · exact ok.pend p hp
    · rw [List.mem_singleton.1 hp]; exact ⟨hin, hs⟩
  · simpa [aft] using heap_setCell (i := 1) (c.heap hb (fun h => h)) v
  · exact ownsRow_setCell_other (c.row hs' (fun _ _ h => h)) (by rw [hrs]; exact hne.1) _
  · have := own_base hv
    rw [List.length_append, pcells_append]
    exact ownsRow_setCell_other this (fun e => by have := hnew B e; omega) _
  · exact ((c.mono (fun _ _ h => h.elim)).setCell (a := ⟨B, 1, none⟩) (fun _ => .inl rfl) v)
theorem RAt.rowP {ap : Option Addr} {cp : Nat} (h : RAt w B rs rp d) (c1 : w.cell? ⟨B, 1, none⟩ = some (.slice ap d.pend.length cp)) : w.ownsRow 0 69 2 (.slice ap d.pend.length cp) d.pend.length (pcells d.pend) := by
  obtain ⟨_, vs, vp, _, _, hb, _, hp⟩ := h
  have e : w.cell? ⟨B, 1, none⟩ = some vp := cell_of hb rfl
  rw [c1] at e
  have e := Option.some.inj e
  rw [← e] at hp
  exact hp
theorem wr_mid {W w5 : World} {v5 : Value} {l : List (Nat × List UInt8)} (hc : Chg (RS B rs rp) w W) (hg : W.grownBy w5 none) (ho : w5.ownsRow W.heap.size 69 2 v5 l.length (pcells l)) (hB : B < W.heap.size) : (∃ a l c, v5 = .slice a l c) ∧ B < w5.heap.size ∧ Hid (w5.ownsRow w.heap.size 69 2 v5 l.length (pcells l)) ∧ Hid (Chg (fun _ => False) W w5) ∧ w.heap.size ≤ w5.heap.size := by
  obtain ⟨a, l', c, e, _⟩ := own_form ho
  have hc5 : Chg (fun _ => False) W w5 := (Chg.refl _ W).grown hg (fun j _ e => by cases e)
  refine ⟨⟨a, l', c, e⟩, Nat.lt_of_lt_of_le hB hc5.size, Lib.hid ⟨ho.1, ?_⟩, Lib.hid hc5, Nat.le_trans hc.size hc5.size⟩
  rcases ho.2 with hh | ⟨g, cap, cur, hv, hg2, rest⟩
  · exact .inl hh
  · exact .inr ⟨g, cap, cur, hv, Nat.le_trans hc.size hg2, rest⟩
theorem wr_end {W w5 w6 : World} {x : Obj} {v5 v6 : Value} {n : Nat} {s : List UInt8} (h : RAt W B rs rp { d with after := d.after - 1 }) (hc : Chg (RS B rs rp) w W) (hW : W.heap.size = w.heap.size) (hc5 : Chg (fun _ => False) W w5) (ho : w5.ownsRow w.heap.size 69 2 v5 d.pend.length (pcells d.pend)) (hg : (w5.alloc x).grownBy w6 v5.ownBlock)
    (ho6 : w6.ownsRow w.heap.size 69 2 v6 (d.pend.length + 1) (pcells d.pend ++ pcells [(n, s)])) (hin : n < d.safe.length) (hs : s.length = 64) (hm : d.pend.length < 1000000) :
    (∃ a l c, v6 = .slice a l c) ∧ ((∃ u, w6.cell? ⟨B, 1, none⟩ = some u) ∧ w6.frozen? ⟨B, 1, none⟩ = false) ∧ B < w6.heap.size ∧ RPost w (w6.setCell ⟨B, 1, none⟩ v6) B rs rp { d with after := d.after - 1, pend := d.pend ++ [(n, s)] } := by
  have hc6 : Chg (fun _ => False) W w6 := (hc5.alloc x).grown hg (fun j hj e => by have := (ho.lt j e).1; omega)
  obtain ⟨sa, cs, ap, cp, _, c1, _, _, hf, hB⟩ := (h.keep hc6 (fun _ _ h => h)).cells
  obtain ⟨rp', q1, q2, q3⟩ := RAt.append (d := { d with after := d.after - 1 }) (v := v6) h hin hs hm hc6 (by rw [hW]; exact ho6)
  obtain ⟨a6, l6, c6, e6, _⟩ := own_form ho6
  exact ⟨⟨a6, l6, c6, e6⟩, ⟨⟨_, c1⟩, hf 1⟩, hB, rp', q1, hc.trans q2 (fun _ _ e => e), q3.elim .inl (fun e => .inr (fun k hk => by have := e k hk; omega))⟩
theorem rWrite_no (n : Int) (s : List UInt8) (h : RAt w B rs rp d) (hd : d.dead = false) (hi : isIn d n = false ∨ s.length ≠ 64) :
    Calls Try.prog 26 #[.pointer (some ⟨B, 0, none⟩), .int .i64 n, .string (mk s)] w fun e w' => e = .returned (.int .i64 (dwrite d n s).2) ∧ w = w' := by
  obtain ⟨sa, cs, ap, cp, c0, _, c2, _, _, hB⟩ := h.cells
  rw [hd] at c2
  have hsz := mk_size s
  by_cases h0 : n < 0
  · have hr : (dwrite d n s).2 = 12 := by
      have : isIn d n = false := by simp [isIn]; omega
      simp [dwrite, hd, this]
    rw [hr]
    clear hr hi h hsz
    go_enter Try.func26, Try.ntmps26
    go_wp2
    go_ret
    exact ⟨rfl, rfl⟩
  · by_cases h1 : (d.safe.length : Int) ≤ n
    · have hr : (dwrite d n s).2 = 12 := by
        have : isIn d n = false := by simp [isIn]; omega
        simp [dwrite, hd, this]
      rw [hr]
      clear hr hi h hsz
      go_enter Try.func26, Try.ntmps26
      go_wp2
      go_ret
      exact ⟨rfl, rfl⟩
    · have hin : isIn d n = true := by simp [isIn]; omega
      have hs : s.length ≠ 64 := by
        rcases hi with hi | hi
        · rw [hin] at hi; cases hi
        · exact hi
      have hne : (((mk s).size : Int) != 64) = true := by rw [bne_iff_ne]; omega
      have hr : (dwrite d n s).2 = 1 := by simp [dwrite, hd, hin, hs]
      rw [hr]
      clear hr hi h hsz hs
      go_enter Try.func26, Try.ntmps26
      go_wp2
      go_ret
      exact ⟨rfl, rfl⟩
theorem rWrite_dead (n : Int) (s : List UInt8) (h : RAt w B rs rp d) (hd : d.dead = true) :
    Calls Try.prog 26 #[.pointer (some ⟨B, 0, none⟩), .int .i64 n, .string (mk s)] w fun e w' => e = .returned (.int .i64 10) ∧ w = w' := by
  obtain ⟨sa, cs, ap, cp, c0, _, c2, _, _, hB⟩ := h.cells
  rw [hd] at c2
  clear h
  go_enter Try.func26, Try.ntmps26
  go_wp2
  go_ret
  exact ⟨rfl, rfl⟩
theorem rWrite_stop (n : Nat) (s : List UInt8) (h : RAt w B rs rp d) (hd : d.dead = false) (hin : n < d.safe.length) (hs : s.length = 64) (h1 : d.stops = true) (h2 : d.after = 0) :
    Calls Try.prog 26 #[.pointer (some ⟨B, 0, none⟩), .int .i64 n, .string (mk s)] w fun e w' => e = .returned (.int .i64 10) ∧ RPost w w' B rs rp { d with dead := true } := by
  obtain ⟨sa, cs, ap, cp, c0, _, c2, c3, hf, hB⟩ := h.cells
  have f2 := hf 2
  rw [hd] at c2
  have ha : aft d = 0 := by simp [aft, h1, h2]
  rw [ha] at c3
  have hsz := mk_size s
  have hne : (((mk s).size : Int) != 64) = false := by rw [bne_eq_false_iff_eq]; omega
  have fin : RPost w (w.setCell ⟨B, 2, none⟩ (.bool true)) B rs rp { d with dead := true } := ⟨rp, h.set2 true, Chg.cellR _ _ _ _ _, .inl rfl⟩
  replace fin := Lib.hid fin
  clear h hsz ha hf h1 h2
  go_enter Try.func26, Try.ntmps26
  go_wp2
  go_ret
  exact ⟨rfl, fin.out⟩
set_option maxHeartbeats 1600000 in
theorem rWrite_ok (n : Nat) (s : List UInt8) (h : RAt w B rs rp d) (hd : d.dead = false) (hin : n < d.safe.length) (hs : s.length = 64) (h1 : ¬ (d.stops = true ∧ d.after = 0)) (hmany : d.pend.length < 1000000) :
    Calls Try.prog 26 #[.pointer (some ⟨B, 0, none⟩), .int .i64 n, .string (mk s)] w fun e w' => e = .returned (.int .i64 0) ∧ RPost w w' B rs rp { d with after := d.after - 1, pend := d.pend ++ [(n, s)] } := by
  obtain ⟨i, hi, hz0, hz1, hz2⟩ := info_parts infoRW
  obtain ⟨sa, cs, ap, cp, c0, c1, c2, c3, hf, hB⟩ := h.cells
  have f1 := hf 1
  have f3 := hf 3
  rw [hd] at c2
  have hsz := mk_size s
  have hne : (((mk s).size : Int) != 64) = false := by rw [bne_eq_false_iff_eq]; omega
  have few := h.1.few
  have haf := h.1.after
  clear hsz
  have hn0 : ¬ (n : Int) < 0 := by omega
  have hn1 : ¬ d.safe.length ≤ n := by omega
  cases hst : d.stops with
  | false =>
    have ha : aft d = -1 := by simp [aft, hst]
    rw [ha] at c3
    have hA : RAt w B rs rp { d with after := d.after - 1 } := by
      obtain ⟨ok, vs, vp, hrs, hrp, hb, hs', hp⟩ := h
      exact ⟨⟨ok.few, ok.size, ok.pend, by simp only; omega, ok.many⟩, vs, vp, hrs, hrp, by simpa [aft, hst] using hb, hs', hp⟩
    have hrow := h.rowP c1
    have hcW := Lib.hid (Chg.refl (RS B rs rp) w)
    have hwW : Hid (w.heap.size = w.heap.size) := Lib.hid rfl
    have hBW := hB
    replace hA := Lib.hid hA
    replace hrow := Lib.hid hrow
    clear h hf ha
    go_enter Try.func26, Try.ntmps26
    go_wp2_with (first | (at_builtin; refine wpList_append_plain rfl (.const (.slice none 0 0)) (.tmp 53) 50 rfl _ _ rfl rfl _ (run_copy_pend _ _ _ hrow.out (by omega)) ?_; rintro v5 w5 ⟨hown5, hg5⟩; obtain ⟨⟨a5, l5, c5, rfl⟩, hB5, hown5, hc5, hsz5⟩ := wr_mid hcW.out hg5 hown5 hBW; clear hg5) | (at_builtin; refine wpList_append_own' rfl (.tmp 54) (.tmp 58) 50 rfl w.heap.size 69 i (.agg #[.int .i64 0, .string ByteArray.empty]) 2 24 Try.underlying50 hi hz0 hz1 hz2 rfl (by decide) _ _ _ rfl (hown5.out.alloc _) ⟨w5.heap.size, 0, none⟩ 1 1 (pcells [(n, s)]) rfl rfl (new_two _ _ _ _ (by simp)) (by intro u hu; simp [pcells] at hu; rcases hu with rfl | rfl <;> rfl) (by unfold maxLen; omega) (by omega) (by simp; omega) ?_; intro v6 w6 hown6 hgrow6 hrow6; obtain ⟨⟨a6, l6, c6, rfl⟩, ⟨⟨u6, z0⟩, z1⟩, zl, fin⟩ := wr_end hA.out hcW.out hwW.out hc5.out hown5.out hgrow6 hown6 hin hs hmany; replace fin := Lib.hid fin; clear hown6 hgrow6 hrow6))
    go_ret
    have fin' := fin.out
    rw [hst, hd] at fin'
    exact ⟨rfl, fin'⟩
  | true =>
    obtain ⟨k, hk⟩ : ∃ k, d.after = k + 1 := ⟨d.after - 1, by have : d.after ≠ 0 := fun e => h1 ⟨hst, e⟩; omega⟩
    have ha : aft d = (k : Int) + 1 := by simp [aft, hst, hk]
    rw [ha] at c3
    have hA0 := h.set3 true k (by omega) (k : Int) (by simp [aft])
    have hA : RAt (w.setCell ⟨B, 3, none⟩ (.int .i64 (k : Int))) B rs rp { d with after := d.after - 1 } := by
      have e : ({ d with stops := true, after := k } : Dk) = { d with after := d.after - 1 } := by rw [hk]; simp [hst]
      rw [e] at hA0
      exact hA0
    have c1' : (w.setCell ⟨B, 3, none⟩ (.int .i64 (k : Int))).cell? ⟨B, 1, none⟩ = some (.slice ap d.pend.length cp) := by rw [World.cell?_setCell_other _ _ _ _ (by simp)]; exact c1
    have hrow : (w.setCell ⟨B, 3, none⟩ (.int .i64 (k : Int))).ownsRow 0 69 2 (.slice ap d.pend.length cp) d.pend.length (pcells d.pend) := hA.rowP c1'
    have hcW := Lib.hid (Chg.cellR (B := B) rs rp w 3 (.int .i64 (k : Int)))
    have hwW : Hid ((w.setCell ⟨B, 3, none⟩ (.int .i64 (k : Int))).heap.size = w.heap.size) := Lib.hid (by simp)
    have hBW : B < (w.setCell ⟨B, 3, none⟩ (.int .i64 (k : Int))).heap.size := by simpa using hB
    replace hA := Lib.hid hA
    replace hrow := Lib.hid hrow
    have hkb : k ≤ 9223372036854775806 := by omega
    clear h hf ha hA0 hk h1
    have hk0 : ((k : Int) + 1 == 0) = false := by rw [beq_eq_false_iff_ne]; omega
    go_enter Try.func26, Try.ntmps26
    go_wp2_with (first | (at_builtin; refine wpList_append_plain rfl (.const (.slice none 0 0)) (.tmp 53) 50 rfl _ _ rfl rfl _ (run_copy_pend _ _ _ hrow.out (by omega)) ?_; rintro v5 w5 ⟨hown5, hg5⟩; obtain ⟨⟨a5, l5, c5, rfl⟩, hB5, hown5, hc5, hsz5⟩ := wr_mid hcW.out hg5 hown5 hBW; clear hg5) | (at_builtin; refine wpList_append_own' rfl (.tmp 54) (.tmp 58) 50 rfl w.heap.size 69 i (.agg #[.int .i64 0, .string ByteArray.empty]) 2 24 Try.underlying50 hi hz0 hz1 hz2 rfl (by decide) _ _ _ rfl (hown5.out.alloc _) ⟨w5.heap.size, 0, none⟩ 1 1 (pcells [(n, s)]) rfl rfl (new_two _ _ _ _ (by simp)) (by intro u hu; simp [pcells] at hu; rcases hu with rfl | rfl <;> rfl) (by unfold maxLen; omega) (by omega) (by simp; omega) ?_; intro v6 w6 hown6 hgrow6 hrow6; obtain ⟨⟨a6, l6, c6, rfl⟩, ⟨⟨u6, z0⟩, z1⟩, zl, fin⟩ := wr_end hA.out hcW.out hwW.out hc5.out hown5.out hgrow6 hown6 hin hs hmany; replace fin := Lib.hid fin; clear hown6 hgrow6 hrow6))
    go_ret
    have fin' := fin.out
    rw [hst, hd] at fin'
    exact ⟨rfl, fin'⟩
theorem rWrite (n : Int) (s : List UInt8) (h : RAt w B rs rp d) (hmany : d.pend.length < 1000000) :
    Calls Try.prog 26 #[.pointer (some ⟨B, 0, none⟩), .int .i64 n, .string (mk s)] w fun e w' => e = .returned (.int .i64 (dwrite d n s).2) ∧ RPost w w' B rs rp (dwrite d n s).1 := by
  cases hd : d.dead
  · cases hin : isIn d n
    · refine (rWrite_no n s h hd (.inl hin)).mono fun e w' ⟨he, hw⟩ => ⟨he, ?_⟩
      subst hw
      rw [show (dwrite d n s).1 = d by simp [dwrite, hd, hin]]
      exact RPost.refl h
    · have hn : 0 ≤ n ∧ n < d.safe.length := by simpa [isIn] using hin
      obtain ⟨k, rfl⟩ := Int.eq_ofNat_of_zero_le hn.1
      by_cases hs : s.length = 64
      · by_cases h1 : d.stops = true ∧ d.after = 0
        · have e1 : dwrite d k s = ({ d with dead := true }, 10) := by simp only [dwrite, hd, hin, hs]; simp [h1]
          rw [e1]
          exact rWrite_stop k s h hd (by omega) hs h1.1 h1.2
        · have e1 : dwrite d k s = ({ d with after := d.after - 1, pend := d.pend ++ [(k, s)] }, 0) := by simp only [dwrite, hd, hin, hs]; simp [h1]
          rw [e1]
          exact rWrite_ok k s h hd (by omega) hs h1 hmany
      · refine (rWrite_no k s h hd (.inr hs)).mono fun e w' ⟨he, hw⟩ => ⟨he, ?_⟩
        subst hw
        rw [show (dwrite d k s).1 = d by simp [dwrite, hd, hin, hs]]
        exact RPost.refl h
  · refine (rWrite_dead n s h hd).mono fun e w' ⟨he, hw⟩ => ?_
    subst hw
    rw [show dwrite d n s = (d, 10) by simp [dwrite, hd]]
    exact ⟨he, RPost.refl h⟩
/-! ### Sync, Crash -/
set_option maxHeartbeats 1600000 in
theorem rSync (h : RAt w B rs rp d) : Calls Try.prog 27 #[.pointer (some ⟨B, 0, none⟩)] w fun e w' => e = .returned (.int .i64 (dsync d).2) ∧ RPost w w' B rs rp (dsync d).1 := by
  obtain ⟨sa, cs, ap, cp, c0, c1, c2, c3, hf, hB⟩ := h.cells
  cases hd : d.dead
  · rw [hd] at c2
    have hr : dsync d = ({ d with safe := dset d.safe d.pend, pend := [] }, 0) := by simp [dsync, hd]
    rw [hr]
    have hmany := h.1.many
    have hok := h.1
    replace hok := Lib.hid hok
    replace hr := Lib.hid hr
    clear c0 c1 c3 hf
    go_enter Try.func27, Try.ntmps27
    go_wp2
    go_loopg [3] d.pend.length (fun g i wr => ∃ k : Nat, g + k = d.pend.length ∧ i = .int .i64 k ∧ Aside (RAt wr B rs rp { d with safe := dset d.safe (d.pend.take k) } ∧ Chg (fun j => rs = some j) w wr))
    case atStart => exact ⟨0, rfl, rfl, h, Chg.refl _ _⟩
    case round =>
      obtain ⟨k, hk, rfl, hI⟩ := hrel
      obtain ⟨i1, i2⟩ := hI.out
      obtain ⟨sa, cs, ap, cp, c0, c1, c2, c3, hf, hB⟩ := i1.cells
      simp only [dset_length] at c0 c1
      clear hI
      by_cases hlt : k < d.pend.length
      · obtain ⟨g, c, z0, hgp, z1, z2, zl⟩ := i1.pendAt k hlt
        simp only at z0 z1 z2
        have hpin := hok.out.pend _ (List.getElem_mem hlt)
        obtain ⟨p, hp⟩ : ∃ p, p = d.pend[k] := ⟨_, rfl⟩
        rw [← hp] at z1 z2 hpin
        have hsn : dset d.safe (d.pend.take (k + 1)) = (dset d.safe (d.pend.take k)).set p.1 p.2 := by rw [List.take_succ_eq_append_getElem hlt, dset_snoc, hp]
        obtain ⟨gs, cc, u, y0, hrs, hgs, y1, yf, hlay⟩ := i1.lay p.1 p.2 (by rw [dset_length]; exact hpin.1) hpin.2
        simp only [dset_length] at y0
        rw [y0] at c0
        cases c0
        rw [z0] at c1
        cases c1
        obtain ⟨hl1, hl2⟩ := hlay wr.drew (Chg.refl _ _).drew
        rw [← hsn] at hl1
        have hl3 := i2.trans hl2 (fun _ _ e => e)
        replace hl1 := Lib.hid hl1
        replace hl3 := Lib.hid hl3
        replace hp := Lib.hid hp
        replace hsn := Lib.hid hsn
        have hpin1 := hpin.1
        clear hlay hl2 i1 i2 hpin c3
        go_wp2
        go_region
        go_wp2
        go_roundg (d.pend.length - (k + 1))
        case rel => exact ⟨k + 1, by omega, by go_num, hl1.out, hl3.out⟩
        case measure => omega
      · obtain rfl : k = d.pend.length := by omega
        rw [List.take_length] at i1
        have fin : RPost w (wr.setCell ⟨B, 1, none⟩ (.slice none 0 0)) B rs rp { d with safe := dset d.safe d.pend, pend := [], dead := false } := ⟨none, (by have := i1.set1; rw [hd] at this; exact this), (i2.mono (fun j _ e => .inr (.inl e))).trans (Chg.cellR rs rp wr 1 _) (fun _ _ e => e), RowOk.none _ _⟩
        replace fin := Lib.hid fin
        have f1 := hf 1
        clear i1 i2 hf
        go_wp2
        go_ret
        exact ⟨rfl, fin.out⟩
  · rw [hd] at c2
    have hr : dsync d = (d, 10) := by simp [dsync, hd]
    rw [hr]
    have fin := Lib.hid (RPost.refl h)
    clear hr h hf
    go_enter Try.func27, Try.ntmps27
    go_wp2
    go_ret
    exact ⟨rfl, fin.out⟩
theorem take_kept (ks : List Bool) (k : Nat) (h : k < d.pend.length) : keptOf (d.pend.take (k + 1)) ks = keptOf (d.pend.take k) ks ++ if ks.getD k false then [d.pend[k]] else [] := by
  have := keptOf_snoc (d.pend[k]) (d.pend.take k) ks
  rw [← List.take_succ_eq_append_getElem h, List.length_take, Nat.min_eq_left (by omega)] at this
  exact this
set_option maxHeartbeats 3200000 in
theorem rCrash (ak : Option Addr) (ck : Nat) (ks : List Bool) (h : RAt w B rs rp d) (hv : BAt w ak ks) (hvs : 0 < ks.length → ∀ b o, ak = some ⟨b, o, none⟩ → rs ≠ some b) : Calls Try.prog 29 #[.pointer (some ⟨B, 0, none⟩), .slice ak ks.length ck] w fun e w' => e = .returned (.int .i64 (dcrash d ks).2) ∧ RPost w w' B rs rp (dcrash d ks).1 := by
  have hmany := h.1.many
  have hok := h.1
  obtain ⟨kf, hkf⟩ : ∃ kf, kf = keptOf d.pend ks := ⟨_, rfl⟩
  rw [show dcrash d ks = ({ safe := dset d.safe kf, pend := [], stops := false, after := 0, dead := false }, kf.length) by rw [hkf]; rfl]
  replace hkf := Lib.hid hkf
  replace hok := Lib.hid hok
  have hB := h.lt B (.inl rfl)
  replace h := Lib.hid h
  replace hv := Lib.hid hv
  go_enter Try.func29, Try.ntmps29
  go_wp2
  go_loopg [6, 5] d.pend.length (fun g i n wr => ∃ k : Nat, g + k = d.pend.length ∧ i = .int .i64 k ∧ n = .int .i64 (keptOf (d.pend.take k) ks).length ∧ Aside (RAt wr B rs rp { d with safe := dset d.safe (keptOf (d.pend.take k) ks) } ∧ Chg (fun j => rs = some j) w wr))
  case atStart => exact ⟨0, rfl, rfl, rfl, h.out, Chg.refl _ _⟩
  case round =>
    obtain ⟨k, hk, rfl, rfl, hI⟩ := hrel
    obtain ⟨i1, i2⟩ := hI.out
    obtain ⟨sa, cs, ap, cp, c0, c1, c2, c3, hf, hBr⟩ := i1.cells
    simp only [dset_length] at c0 c1
    have hlen := keptOf_length (d.pend.take k) ks
    rw [List.length_take, Nat.min_eq_left (by omega)] at hlen
    clear hI
    by_cases hlt : k < d.pend.length
    · have htk := take_kept ks k hlt
      by_cases hlk : k < ks.length
      · obtain ⟨kb, koff, rfl, hkcell⟩ := hv.out k hlk
        have hkc := (World.cell?_of_block (w := w) (i2.block kb (World.block_lt_of_cell? w _ hkcell) (hvs (by omega) kb koff rfl))).trans hkcell
        have hkl := World.block_lt_of_cell? wr _ hkc
        have hb : ks.getD k false = ks[k] := by simp [hlk]
        rw [hb] at htk
        obtain ⟨bb, hbb⟩ : ∃ bb, bb = ks[k] := ⟨_, rfl⟩
        rw [← hbb] at hkc htk
        clear hb hbb hkcell
        cases bb
        · simp only [Bool.false_eq_true, if_false, List.append_nil] at htk
          rw [← htk] at i1
          replace i1 := Lib.hid i1
          replace i2 := Lib.hid i2
          clear hf
          have hle : (keptOf (d.pend.take k) ks).length = (keptOf (d.pend.take (k + 1)) ks).length := by rw [htk]
          replace htk := Lib.hid htk
          go_wp2
          go_roundg (d.pend.length - (k + 1))
          case rel => exact ⟨k + 1, by omega, by go_num, rfl, i1.out, i2.out⟩
          case measure => omega
        · simp only [if_true] at htk
          obtain ⟨g, c, z0, hgp, z1, z2, zl⟩ := i1.pendAt k hlt
          simp only at z0 z1 z2
          have hpin := hok.out.pend _ (List.getElem_mem hlt)
          obtain ⟨p, hp⟩ : ∃ p, p = d.pend[k] := ⟨_, rfl⟩
          rw [← hp] at z1 z2 hpin htk
          have hsn : dset d.safe (keptOf (d.pend.take (k + 1)) ks) = (dset d.safe (keptOf (d.pend.take k) ks)).set p.1 p.2 := by rw [htk, dset_snoc]
          have hle : (keptOf (d.pend.take (k + 1)) ks).length = (keptOf (d.pend.take k) ks).length + 1 := by rw [htk]; simp
          obtain ⟨gs, cc, u, y0, hrs, hgs, y1, yf, hlay⟩ := i1.lay p.1 p.2 (by rw [dset_length]; exact hpin.1) hpin.2
          simp only [dset_length] at y0
          rw [y0] at c0
          cases c0
          rw [z0] at c1
          cases c1
          obtain ⟨hl1, hl2⟩ := hlay wr.drew (Chg.refl _ _).drew
          rw [← hsn] at hl1
          have hl3 := i2.trans hl2 (fun _ _ e => e)
          replace hl1 := Lib.hid hl1
          replace hl3 := Lib.hid hl3
          replace hp := Lib.hid hp
          replace hsn := Lib.hid hsn
          replace htk := Lib.hid htk
          replace hle := Lib.hid hle
          have hpin1 := hpin.1
          clear hlay hl2 i1 i2 hpin c2 c3
          go_wp2
          go_region
          go_wp2
          go_roundg (d.pend.length - (k + 1))
          case rel => exact ⟨k + 1, by omega, by go_num, by rw [hle.out]; go_num, hl1.out, hl3.out⟩
          case measure => omega
      · have hb : ks.getD k false = false := by simp [hlk]
        rw [hb] at htk
        simp only [Bool.false_eq_true, if_false, List.append_nil] at htk
        rw [← htk] at i1
        replace i1 := Lib.hid i1
        replace i2 := Lib.hid i2
        clear hf
        have hle : (keptOf (d.pend.take k) ks).length = (keptOf (d.pend.take (k + 1)) ks).length := by rw [htk]
        replace htk := Lib.hid htk
        go_wp2
        go_roundg (d.pend.length - (k + 1))
        case rel => exact ⟨k + 1, by omega, by go_num, rfl, i1.out, i2.out⟩
        case measure => omega
    · obtain rfl : k = d.pend.length := by omega
      rw [List.take_length, ← hkf.out] at i1
      have fin : RPost w (((wr.setCell ⟨B, 1, none⟩ (.slice none 0 0)).setCell ⟨B, 2, none⟩ (.bool false)).setCell ⟨B, 3, none⟩ (.int .i64 (-1))) B rs rp { safe := dset d.safe kf, pend := [], stops := false, after := 0, dead := false } :=
        ⟨none, (i1.set1.set2 false).set3 false 0 (by omega) (-1) rfl, (((i2.mono (fun j _ e => .inr (.inl e))).trans (Chg.cellR rs rp wr 1 _) (fun _ _ e => e)).setCell (a := ⟨B, 2, none⟩) (fun _ => .inl rfl) _).setCell (a := ⟨B, 3, none⟩) (fun _ => .inl rfl) _, RowOk.none _ _⟩
      replace fin := Lib.hid fin
      have f1 := hf 1
      have f2 := hf 2
      have f3 := hf 3
      clear i1 i2 hf
      go_wp2
      go_ret
      exact ⟨by show Ending.returned (.int .i64 ((keptOf d.pend ks).length : Int)) = _; rw [← hkf.out], fin.out⟩
end
end Go.Proofs.Ytnphpnbliigfbaa
