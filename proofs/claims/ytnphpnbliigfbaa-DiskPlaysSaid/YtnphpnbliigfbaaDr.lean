/- What Read, Write and Stop of a disk answer and leave. No condition. -/
import Derived.Test.YtnphpnbliigfbaaDk
namespace Go.Proofs.Ytnphpnbliigfbaa
open Go.RowKit

def dread (d : Dk) (n : Int) : List UInt8 × Int :=
  if d.dead then ([], 10) else if isIn d n then ((latest d.pend n.toNat).getD (d.safe.getD n.toNat []), 0) else ([], 12)

section
variable {w : World} {B : Nat} {rs rp : Option Nat} {m : Nat} {d : Dk}
/-- The disk's blocks are apart from its own one: by what they hold. -/
theorem DAt.own_ne (h : DAt w B rs rp m d) : rs ≠ some B ∧ rp ≠ some B ∧ m ≠ B := by
  obtain ⟨_, vs, vp, rfl, rfl, hb, hs, hp, hm⟩ := h
  refine ⟨fun e => ?_, fun e => ?_, fun e => ?_⟩
  · obtain ⟨cur, hc⟩ := own_block hs e
    rw [hb] at hc; simp at hc
  · obtain ⟨cur, hc⟩ := own_block hp e
    rw [hb] at hc; simp at hc
  · obtain ⟨es, cl, hc⟩ := hm.block
    rw [e, hb] at hc; simp at hc
theorem DAt.rows_ne (h : DAt w B rs rp m d) : (∀ k, rs = some k → rp ≠ some k) ∧ rs ≠ some m ∧ rp ≠ some m := by
  obtain ⟨_, vs, vp, rfl, rfl, hb, hs, hp, hm⟩ := h
  obtain ⟨es, cl, hmb⟩ := hm.block
  refine ⟨fun k e e' => ?_, fun e => ?_, fun e => ?_⟩
  · obtain ⟨cur, hc⟩ := own_block hs e
    obtain ⟨cur', hc'⟩ := own_block hp e'
    rw [hc] at hc'; simp at hc'
  · obtain ⟨cur, hc⟩ := own_block hs e
    rw [hmb] at hc; simp at hc
  · obtain ⟨cur, hc⟩ := own_block hp e
    rw [hmb] at hc; simp at hc
theorem DAt.safeAt (h : DAt w B rs rp m d) (n : Nat) (hn : n < d.safe.length) : ∃ g c, w.cell? ⟨B, 0, none⟩ = some (.slice (some ⟨g, 0, none⟩) d.safe.length c) ∧ rs = some g ∧ w.cell? ⟨g, n, none⟩ = some (.string (mk (d.safe.getD n []))) := by
  obtain ⟨_, vs, vp, hrs, _, hb, hs, hp, _⟩ := h
  rcases hs.2 with ⟨rfl, h0⟩ | ⟨g, cap, cur, rfl, _⟩
  · omega
  · refine ⟨g, cap, cell_of hb rfl, by rw [← hrs]; rfl, ?_⟩
    have := hs.cells (g := g) (by simp [Value.ownBlock]) n (.string (mk (d.safe.getD n []))) (by simp [scells, hn])
    rwa [Addr.add_lit, Nat.zero_add] at this
theorem kRead (n : Int) (h : DAt w B rs rp m d) : Calls Try.prog 19 #[.pointer (some ⟨B, 0, none⟩), .int .i64 n] w fun e w' => e = .returned (.tuple #[.string (mk (dread d n).1), .int .i64 (dread d n).2]) ∧ w = w' := by
  have C := Lib.hid (kDead h)
  have D := Lib.hid (kis n h)
  cases hd : d.dead
  · rw [hd] at C
    by_cases hi : isIn d n = true
    · rw [hi] at D
      have hn : 0 ≤ n ∧ n < d.safe.length := by simpa [isIn] using hi
      obtain ⟨k, rfl⟩ := Int.eq_ofNat_of_zero_le hn.1
      have hk : k < d.safe.length := by omega
      have hr : dread d k = ((latest d.pend k).getD (d.safe.getD k []), 0) := by simp [dread, hd, hi]
      rw [hr]
      obtain ⟨g, c, c0, _, cg⟩ := h.safeAt k hk
      obtain ⟨sa, cs, ap, cp, _, c1, c2, c3, c4, c5, hf, hB⟩ := h.cells
      have hlen := h.1.few
      obtain ⟨_, _, _, _, _, _, _, _, hm⟩ := h
      have hlk := run_smap_look hm k (by omega)
      clear c1 c3 c4 c5 hf hB hr hi hm
      generalize d.safe.getD k [] = x at *
      cases hl : latest d.pend k with
      | none =>
        rw [hl] at hlk
        simp only [Option.getD_none, Option.isSome_none] at hlk
        clear hl
        go_enter Try.func19, Try.ntmps19
        go_wp2_with (first | (go_at_call 21; refine C.out.mono ?_; rintro e w' ⟨rfl, rfl⟩) | (go_at_call 32; refine D.out.mono ?_; rintro e w' ⟨rfl, rfl⟩))
        go_ret2
        exact ⟨rfl, rfl⟩
      | some y =>
        rw [hl] at hlk
        simp only [Option.getD_some, Option.isSome_some] at hlk
        clear hl
        go_enter Try.func19, Try.ntmps19
        go_wp2_with (first | (go_at_call 21; refine C.out.mono ?_; rintro e w' ⟨rfl, rfl⟩) | (go_at_call 32; refine D.out.mono ?_; rintro e w' ⟨rfl, rfl⟩))
        go_ret2
        exact ⟨rfl, rfl⟩
    · have hi' : isIn d n = false := by simpa using hi
      rw [hi'] at D
      have hr : dread d n = ([], 12) := by simp [dread, hd, hi']
      rw [hr]
      clear hr hi hi' h
      go_enter Try.func19, Try.ntmps19
      go_wp2_with (first | (go_at_call 21; refine C.out.mono ?_; rintro e w' ⟨rfl, rfl⟩) | (go_at_call 32; refine D.out.mono ?_; rintro e w' ⟨rfl, rfl⟩))
      go_ret2
      exact ⟨rfl, rfl⟩
  · rw [hd] at C
    have hr : dread d n = ([], 10) := by simp [dread, hd]
    rw [hr]
    clear hr h
    go_enter Try.func19, Try.ntmps19
    go_wp2_with (first | (go_at_call 21; refine C.out.mono ?_; rintro e w' ⟨rfl, rfl⟩))
    go_ret2
    exact ⟨rfl, rfl⟩

/-- What Write does. -/
def dwrite (d : Dk) (n : Int) (s : List UInt8) : Dk × Int :=
  if d.dead then (d, 10) else if isIn d n = false then (d, 12) else if s.length ≠ 64 then (d, 1) else
  if d.stops = true ∧ d.after = 0 then ({ d with dead := true }, 10) else ({ d with after := d.after - 1, pend := d.pend ++ [(n.toNat, s)] }, 0)

/-- The same disk, its small fields turned. -/
theorem DAt.set3 (h : DAt w B rs rp m d) (b : Bool) : DAt (w.setCell ⟨B, 3, none⟩ (.bool b)) B rs rp m { d with stops := b } := by
  have hb' := h.own_ne
  obtain ⟨ok, vs, vp, hrs, hrp, hb, hs, hp, hm⟩ := h
  exact ⟨⟨ok.few, ok.size, ok.pend, ok.after, ok.many⟩, vs, vp, hrs, hrp, by simpa using heap_setCell (i := 3) hb (.bool b), ownsRow_setCell_other hs (by rw [hrs]; exact hb'.1) _, ownsRow_setCell_other hp (by rw [hrp]; exact hb'.2.1) _, hm.chg ((Chg.refl (fun k => k = B) w).setCell (a := ⟨B, 3, none⟩) (fun _ => rfl) _) hb'.2.2⟩
theorem DAt.set4 (h : DAt w B rs rp m d) (n : Nat) (hn : n ≤ 9223372036854775807) : DAt (w.setCell ⟨B, 4, none⟩ (.int .i64 (n : Int))) B rs rp m { d with after := n } := by
  have hb' := h.own_ne
  obtain ⟨ok, vs, vp, hrs, hrp, hb, hs, hp, hm⟩ := h
  exact ⟨⟨ok.few, ok.size, ok.pend, hn, ok.many⟩, vs, vp, hrs, hrp, by simpa using heap_setCell (i := 4) hb (.int .i64 (n : Int)), ownsRow_setCell_other hs (by rw [hrs]; exact hb'.1) _, ownsRow_setCell_other hp (by rw [hrp]; exact hb'.2.1) _, hm.chg ((Chg.refl (fun k => k = B) w).setCell (a := ⟨B, 4, none⟩) (fun _ => rfl) _) hb'.2.2⟩
theorem DAt.set5 (h : DAt w B rs rp m d) (b : Bool) : DAt (w.setCell ⟨B, 5, none⟩ (.bool b)) B rs rp m { d with dead := b } := by
  have hb' := h.own_ne
  obtain ⟨ok, vs, vp, hrs, hrp, hb, hs, hp, hm⟩ := h
  exact ⟨⟨ok.few, ok.size, ok.pend, ok.after, ok.many⟩, vs, vp, hrs, hrp, by simpa using heap_setCell (i := 5) hb (.bool b), ownsRow_setCell_other hs (by rw [hrs]; exact hb'.1) _, ownsRow_setCell_other hp (by rw [hrp]; exact hb'.2.1) _, hm.chg ((Chg.refl (fun k => k = B) w).setCell (a := ⟨B, 5, none⟩) (fun _ => rfl) _) hb'.2.2⟩
theorem Chg.cellB (rs rp : Option Nat) (m : Nat) (w : World) (i : Nat) (v : Value) : Chg (DS B rs rp m) w (w.setCell ⟨B, i, none⟩ v) := (Chg.refl _ w).setCell (a := ⟨B, i, none⟩) (fun _ => .inl rfl) v

theorem DPost.refl (h : DAt w B rs rp m d) : DPost w w B rs rp m d := ⟨rp, h, Chg.refl _ _, .inl rfl⟩

theorem kWrite_no (n : Int) (s : List UInt8) (h : DAt w B rs rp m d) (hd : d.dead = false) (hi : isIn d n = false ∨ s.length ≠ 64) :
    Calls Try.prog 14 #[.pointer (some ⟨B, 0, none⟩), .int .i64 n, .string (mk s)] w fun e w' => e = .returned (.int .i64 (dwrite d n s).2) ∧ w = w' := by
  have C := Lib.hid (kDead h)
  have D := Lib.hid (kis n h)
  rw [hd] at C
  have hsz := mk_size s
  cases hin : isIn d n
  · rw [hin] at D
    have hr : (dwrite d n s).2 = 12 := by simp [dwrite, hd, hin]
    rw [hr]
    clear hr hi h hsz hd
    go_enter Try.func14, Try.ntmps14
    go_wp2_with (first | (go_at_call 21; refine C.out.mono ?_; rintro e w' ⟨rfl, rfl⟩) | (go_at_call 32; refine D.out.mono ?_; rintro e w' ⟨rfl, rfl⟩))
    go_ret
    exact ⟨rfl, rfl⟩
  · rw [hin] at D
    have hs : s.length ≠ 64 := by
      rcases hi with hi | hi
      · rw [hin] at hi; cases hi
      · exact hi
    have hne : (((mk s).size : Int) != 64) = true := by rw [bne_iff_ne]; omega
    have hr : (dwrite d n s).2 = 1 := by simp [dwrite, hd, hin, hs]
    rw [hr]
    clear hr hi h hsz hd hs
    go_enter Try.func14, Try.ntmps14
    go_wp2_with (first | (go_at_call 21; refine C.out.mono ?_; rintro e w' ⟨rfl, rfl⟩) | (go_at_call 32; refine D.out.mono ?_; rintro e w' ⟨rfl, rfl⟩))
    go_ret
    exact ⟨rfl, rfl⟩

theorem kWrite_dead (n : Int) (s : List UInt8) (h : DAt w B rs rp m d) (hd : d.dead = true) :
    Calls Try.prog 14 #[.pointer (some ⟨B, 0, none⟩), .int .i64 n, .string (mk s)] w fun e w' => e = .returned (.int .i64 10) ∧ w = w' := by
  have C := Lib.hid (kDead h)
  rw [hd] at C
  clear hd h
  go_enter Try.func14, Try.ntmps14
  go_wp2_with (first | (go_at_call 21; refine C.out.mono ?_; rintro e w' ⟨rfl, rfl⟩))
  go_ret
  exact ⟨rfl, rfl⟩

theorem kWrite_stop (n : Int) (s : List UInt8) (h : DAt w B rs rp m d) (hd : d.dead = false) (hin : isIn d n = true) (hs : s.length = 64) (h1 : d.stops = true) (h2 : d.after = 0) :
    Calls Try.prog 14 #[.pointer (some ⟨B, 0, none⟩), .int .i64 n, .string (mk s)] w fun e w' => e = .returned (.int .i64 10) ∧ DPost w w' B rs rp m { d with dead := true } := by
  have C := Lib.hid (kDead h)
  have D := Lib.hid (kis n h)
  rw [hd] at C
  rw [hin] at D
  have hsz := mk_size s
  have hne : (((mk s).size : Int) != 64) = false := by rw [bne_eq_false_iff_eq]; omega
  have fin : DPost w (w.setCell ⟨B, 5, none⟩ (.bool true)) B rs rp m { d with dead := true } := ⟨rp, h.set5 true, Chg.cellB _ _ _ _ _ _, .inl rfl⟩
  obtain ⟨sa, cs, ap, cp, c0, c1, c2, c3, c4, c5, hf, hB⟩ := h.cells
  have f5 := hf 5
  rw [h1] at c3
  rw [h2] at c4
  clear hs hsz hin hd h h1 h2 c0 c1 c2 hf hB
  go_enter Try.func14, Try.ntmps14
  go_wp2_with (first | (go_at_call 21; refine C.out.mono ?_; rintro e w' ⟨rfl, rfl⟩) | (go_at_call 32; refine D.out.mono ?_; rintro e w' ⟨rfl, rfl⟩))
  go_ret
  exact ⟨rfl, fin⟩
end
end Go.Proofs.Ytnphpnbliigfbaa
