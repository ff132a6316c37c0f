/- The document's disk in memory: Read, Stop. No condition. -/
import Derived.Test.YtnphpnbliigfbaaCp
import Derived.Deep.LoopGhost
namespace Go.Proofs.Ytnphpnbliigfbaa
open Go.RowKit

/-- After how many writes it stops; -1: never. -/
def aft (d : Dk) : Int := if d.stops = true then (d.after : Int) else -1
/-- THE DOCUMENT's DISK IN MEMORY. -/
def RAt (w : World) (B : Nat) (rs rp : Option Nat) (d : Dk) : Prop :=
  d.Ok ∧ ∃ vs vp, vs.ownBlock = rs ∧ vp.ownBlock = rp ∧ w.heap[B]? = some (.cells #[vs, vp, .bool d.dead, .int .i64 (aft d)] 52 (0, 0)) ∧
    w.ownsRow 0 9 1 vs d.safe.length (scells d.safe) ∧ w.ownsRow 0 69 2 vp d.pend.length (pcells d.pend)
def RS (B : Nat) (rs rp : Option Nat) (k : Nat) : Prop := k = B ∨ rs = some k ∨ rp = some k
def RPost (w w' : World) (B : Nat) (rs rp : Option Nat) (d : Dk) : Prop := ∃ rp', RAt w' B rs rp' d ∧ Chg (RS B rs rp) w w' ∧ RowOk w rp rp'
section
variable {w : World} {B : Nat} {rs rp : Option Nat} {d : Dk}
theorem RAt.cells (h : RAt w B rs rp d) : ∃ sa cs ap cp, w.cell? ⟨B, 0, none⟩ = some (.slice sa d.safe.length cs) ∧ w.cell? ⟨B, 1, none⟩ = some (.slice ap d.pend.length cp) ∧
    w.cell? ⟨B, 2, none⟩ = some (.bool d.dead) ∧ w.cell? ⟨B, 3, none⟩ = some (.int .i64 (aft d)) ∧ (∀ i, w.frozen? ⟨B, i, none⟩ = false) ∧ B < w.heap.size := by
  obtain ⟨_, vs, vp, _, _, hb, hs, hp⟩ := h
  obtain ⟨sa, ls, cs, rfl, rfl⟩ := own_form hs
  obtain ⟨ap, lp, cp, rfl, rfl⟩ := own_form hp
  exact ⟨sa, cs, ap, cp, cell_of hb rfl, cell_of hb rfl, cell_of hb rfl, cell_of hb rfl, fun i => free_of hb, lt_of hb⟩
theorem RAt.own_ne (h : RAt w B rs rp d) : rs ≠ some B ∧ rp ≠ some B ∧ (∀ k, rs = some k → rp ≠ some k) := by
  obtain ⟨_, vs, vp, rfl, rfl, hb, hs, hp⟩ := h
  refine ⟨fun e => ?_, fun e => ?_, fun k e e' => ?_⟩
  · obtain ⟨cur, hc⟩ := own_block hs e
    rw [hb] at hc; simp at hc
  · obtain ⟨cur, hc⟩ := own_block hp e
    rw [hb] at hc; simp at hc
  · obtain ⟨cur, hc⟩ := own_block hs e
    obtain ⟨cur', hc'⟩ := own_block hp e'
    rw [hc] at hc'; simp at hc'
theorem RAt.keep {S : Nat → Prop} {w' : World} (h : RAt w B rs rp d) (c : Chg S w w') (hn : ∀ k, RS B rs rp k → ¬ S k) : RAt w' B rs rp d := by
  obtain ⟨ok, vs, vp, hrs, hrp, hb, hs, hp⟩ := h
  exact ⟨ok, vs, vp, hrs, hrp, c.heap hb (hn B (.inl rfl)), c.row hs (fun k hk => hn k (.inr (.inl (by rw [← hrs, hk])))), c.row hp (fun k hk => hn k (.inr (.inr (by rw [← hrp, hk]))))⟩
theorem RAt.lt (h : RAt w B rs rp d) : ∀ k, RS B rs rp k → k < w.heap.size := by
  obtain ⟨_, vs, vp, rfl, rfl, hb, hs, hp⟩ := h
  rintro k (rfl | e | e)
  · exact lt_of hb
  · exact (hs.lt k e).2
  · exact (hp.lt k e).2
theorem RAt.safeAt (h : RAt w B rs rp d) (n : Nat) (hn : n < d.safe.length) : ∃ g c, w.cell? ⟨B, 0, none⟩ = some (.slice (some ⟨g, 0, none⟩) d.safe.length c) ∧ rs = some g ∧ w.cell? ⟨g, n, none⟩ = some (.string (mk (d.safe.getD n []))) ∧ w.frozen? ⟨g, n, none⟩ = false ∧ g < w.heap.size := by
  obtain ⟨_, vs, vp, hrs, _, hb, hs, hp⟩ := h
  have hfz := fun (g : Nat) (c : Nat) (e : vs = .slice (some ⟨g, 0, none⟩) d.safe.length c) => (e ▸ hs).frozenAt n
  rcases hs.2 with ⟨rfl, h0⟩ | ⟨g, cap, cur, rfl, _⟩
  · omega
  · have := hs.cells (g := g) (by simp [Value.ownBlock]) n (.string (mk (d.safe.getD n []))) (by simp [scells, hn])
    rw [Addr.add_lit, Nat.zero_add] at this
    exact ⟨g, cap, cell_of hb rfl, by rw [← hrs]; rfl, this, hfz g cap rfl, World.block_lt_of_cell? w _ this⟩
theorem RAt.pendAt (h : RAt w B rs rp d) (k : Nat) (hk : k < d.pend.length) : ∃ g c, w.cell? ⟨B, 1, none⟩ = some (.slice (some ⟨g, 0, none⟩) d.pend.length c) ∧ rp = some g ∧ w.cell? ⟨g, k * 2, none⟩ = some (.int .i64 ((d.pend[k]).1 : Int)) ∧ w.cell? ⟨g, k * 2 + 1, none⟩ = some (.string (mk (d.pend[k]).2)) ∧ g < w.heap.size := by
  obtain ⟨_, vs, vp, _, hrp, hb, hs, hp⟩ := h
  have hcells := fun (g : Nat) => hp.cells (g := g)
  rcases hp.2 with ⟨rfl, h0⟩ | ⟨g, cap, cur, rfl, _⟩
  · omega
  · have hq := pcells_at d.pend k hk
    have a0 := hcells g (by simp [Value.ownBlock]) (2 * k) _ hq.1
    have a1 := hcells g (by simp [Value.ownBlock]) (2 * k + 1) _ hq.2
    rw [Addr.add_lit, Nat.zero_add, Nat.mul_comm] at a0 a1
    exact ⟨g, cap, cell_of hb rfl, by rw [← hrp]; rfl, a0, a1, World.block_lt_of_cell? w _ a0⟩
theorem RPost.refl (h : RAt w B rs rp d) : RPost w w B rs rp d := ⟨rp, h, Chg.refl _ _, .inl rfl⟩
theorem RAt.set2 (h : RAt w B rs rp d) (b : Bool) : RAt (w.setCell ⟨B, 2, none⟩ (.bool b)) B rs rp { d with dead := b } := by
  have hb' := h.own_ne
  obtain ⟨ok, vs, vp, hrs, hrp, hb, hs, hp⟩ := h
  exact ⟨⟨ok.few, ok.size, ok.pend, ok.after, ok.many⟩, vs, vp, hrs, hrp, by simpa [aft] using heap_setCell (i := 2) hb (.bool b), ownsRow_setCell_other hs (by rw [hrs]; exact hb'.1) _, ownsRow_setCell_other hp (by rw [hrp]; exact hb'.2.1) _⟩
theorem RAt.set3 (h : RAt w B rs rp d) (st : Bool) (n : Nat) (hn : n ≤ 9223372036854775807) (v : Int) (hv : v = aft { d with stops := st, after := n }) : RAt (w.setCell ⟨B, 3, none⟩ (.int .i64 v)) B rs rp { d with stops := st, after := n } := by
  subst hv
  have hb' := h.own_ne
  obtain ⟨ok, vs, vp, hrs, hrp, hb, hs, hp⟩ := h
  exact ⟨⟨ok.few, ok.size, ok.pend, hn, ok.many⟩, vs, vp, hrs, hrp, by simpa using heap_setCell (i := 3) hb (.int .i64 (aft { d with stops := st, after := n })), ownsRow_setCell_other hs (by rw [hrs]; exact hb'.1) _, ownsRow_setCell_other hp (by rw [hrp]; exact hb'.2.1) _⟩
theorem Chg.cellR (rs rp : Option Nat) (w : World) (i : Nat) (v : Value) : Chg (RS B rs rp) w (w.setCell ⟨B, i, none⟩ v) := (Chg.refl _ w).setCell (a := ⟨B, i, none⟩) (fun _ => .inl rfl) v
/-- Nothing is written down any more. -/
theorem RAt.set1 (h : RAt w B rs rp d) : RAt (w.setCell ⟨B, 1, none⟩ (.slice none 0 0)) B rs none { d with pend := [] } := by
  have hb' := h.own_ne
  obtain ⟨ok, vs, vp, hrs, hrp, hb, hs, hp⟩ := h
  exact ⟨⟨ok.few, ok.size, by simp, ok.after, by simp⟩, vs, .slice none 0 0, hrs, rfl, by simpa [aft] using heap_setCell (i := 1) hb (.slice none 0 0), ownsRow_setCell_other hs (by rw [hrs]; exact hb'.1) _, World.ownsRow_nil _ _ _ _⟩
/-- One sector is laid down. -/
theorem RAt.lay (h : RAt w B rs rp d) (n : Nat) (s : List UInt8) (hn : n < d.safe.length) (hs : s.length = 64) :
    ∃ g c u, w.cell? ⟨B, 0, none⟩ = some (.slice (some ⟨g, 0, none⟩) d.safe.length c) ∧ rs = some g ∧ g < w.heap.size ∧ w.cell? ⟨g, n, none⟩ = some u ∧ w.frozen? ⟨g, n, none⟩ = false ∧
      ∀ w1, Chg (fun _ => False) w w1 → RAt (w1.setCell ⟨g, n, none⟩ (.string (mk s))) B rs rp { d with safe := d.safe.set n s } ∧ Chg (fun j => rs = some j) w (w1.setCell ⟨g, n, none⟩ (.string (mk s))) := by
  have hne := h.own_ne
  obtain ⟨g, c, c0, hg, cg, cf, cl⟩ := h.safeAt n hn
  obtain ⟨ok, vs, vp, hrs, hrp, hb, hs', hp⟩ := h
  have hvs : vs = .slice (some ⟨g, 0, none⟩) d.safe.length c := by
    have e := cell_of (i := 0) hb rfl
    rw [c0] at e
    exact (Option.some.inj e).symm
  subst hvs
  refine ⟨g, c, _, c0, hg, cl, cg, cf, fun w1 hc => ?_⟩
  have hst := (hc.row hs' (fun _ _ h => h)).stored n (.string (mk s))
  have hgB : g ≠ B := fun e => hne.1 (by rw [hg, e])
  have c2 : Chg (fun k => k = g) w (w1.setCell ⟨g, n, none⟩ (.string (mk s))) := Chg.setCell (S := fun k => k = g) (hc.mono (fun _ _ h => h.elim)) (a := ⟨g, n, none⟩) (fun _ => rfl) _
  refine ⟨⟨⟨by simpa using ok.few, ?_, by simpa using ok.pend, ok.after, ok.many⟩, _, vp, hrs, hrp, ?_, ?_, c2.row hp (fun k hk e => hne.2.2 g hg (by rw [← hrp, hk, e]))⟩, c2.mono (fun j _ e => by rw [hg, e])⟩
  · intro t ht
    rcases List.mem_or_eq_of_mem_set ht with ht | ht
    · exact ok.size t ht
    · rw [ht]; exact hs
  · have := c2.heap hb (fun e => hgB e.symm)
    simpa [aft] using this
  · simp only [List.length_set]
    rw [show scells (d.safe.set n s) = (scells d.safe).set n (.string (mk s)) by simp [scells, List.map_set]]
    exact hst.1
/-! ### Read -/
set_option maxHeartbeats 800000 in
theorem rRead (n : Int) (h : RAt w B rs rp d) : Calls Try.prog 25 #[.pointer (some ⟨B, 0, none⟩), .int .i64 n] w fun e w' => e = .returned (.tuple #[.string (mk (dread d n).1), .int .i64 (dread d n).2]) ∧ w = w' := by
  obtain ⟨sa, cs, ap, cp, c0, c1, c2, _, _, hB⟩ := h.cells
  cases hd : d.dead
  · rw [hd] at c2
    by_cases h0 : n < 0
    · have hr : dread d n = ([], 12) := by simp [dread, hd, isIn]; omega
      rw [hr]
      clear hr h
      go_enter Try.func25, Try.ntmps25
      go_wp2
      go_ret2
      exact ⟨rfl, rfl⟩
    · by_cases h1 : (d.safe.length : Int) ≤ n
      · have hr : dread d n = ([], 12) := by simp [dread, hd, isIn]; omega
        rw [hr]
        clear hr h
        go_enter Try.func25, Try.ntmps25
        go_wp2
        go_ret2
        exact ⟨rfl, rfl⟩
      · obtain ⟨k, rfl⟩ := Int.eq_ofNat_of_zero_le (show 0 ≤ n by omega)
        have hk : k < d.safe.length := by omega
        have hi : isIn d k = true := by simp [isIn]; omega
        have hr : dread d k = ((latest d.pend k).getD (d.safe.getD k []), 0) := by simp [dread, hd, hi]
        obtain ⟨x, hx⟩ : ∃ x, x = (latest d.pend k).getD (d.safe.getD k []) := ⟨_, rfl⟩
        rw [hr, ← hx]
        have hsf := h.safeAt k hk
        have hmany := h.1.many
        have hpend := fun j hj => h.pendAt j hj
        replace hpend := Lib.hid hpend
        replace hsf := Lib.hid hsf
        replace hx := Lib.hid hx
        clear hr h hi
        go_enter Try.func25, Try.ntmps25
        go_wp2
        go_loopg [6] d.pend.length (fun g i wr => ∃ j : Nat, g = j ∧ i = .int .i64 ((j : Int) - 1) ∧ j ≤ d.pend.length ∧ Aside (x = (latest (d.pend.take j) k).getD (d.safe.getD k []) ∧ wr = w))
        case atStart => exact ⟨d.pend.length, rfl, by first | rfl | go_num, Nat.le_refl _, by rw [List.take_length]; exact hx.out, rfl⟩
        case round =>
          obtain ⟨j, hgj, rfl, hj, hI⟩ := hrel
          obtain ⟨i1, rfl⟩ := hI.out
          clear hI
          cases j with
          | zero =>
            obtain ⟨g, c, z0, _, z1, _, zl⟩ := hsf.out
            rw [z0] at c0
            cases c0
            simp only [List.take_zero, latest_nil, Option.getD_none] at i1
            rw [← i1] at z1
            replace i1 := Lib.hid i1
            clear hsf hpend
            go_wp2
            go_ret2
            exact ⟨rfl, rfl⟩
          | succ j =>
            obtain ⟨g, c, z0, _, z1, z2, zl⟩ := hpend.out j hj
            rw [z0] at c1
            cases c1
            rw [List.take_succ_eq_append_getElem hj, latest_snoc] at i1
            obtain ⟨q, hq⟩ : ∃ q, q = d.pend[j] := ⟨_, rfl⟩
            rw [← hq] at z1 z2 i1
            replace hq := Lib.hid hq
            have e1 : ((j + 1 : Nat) : Int) - 1 = (j : Int) := by omega
            rw [e1]
            by_cases hqk : q.1 = k
            · rw [if_pos hqk.symm] at i1
              simp only [Option.getD_some] at i1
              rw [← i1] at z2
              rw [hqk] at z1
              replace i1 := Lib.hid i1
              replace hqk := Lib.hid hqk
              clear hsf hpend
              go_wp2
              go_ret2
              exact ⟨rfl, rfl⟩
            · rw [if_neg (fun e => hqk e.symm)] at i1
              have hb : ((q.1 : Int) == (k : Int)) = false := by rw [beq_eq_false_iff_ne]; omega
              replace i1 := Lib.hid i1
              clear hqk
              go_wp2
              go_roundg j
              case rel => exact ⟨j, rfl, by go_num, by omega, i1.out, rfl⟩
              case measure => omega
  · rw [hd] at c2
    have hr : dread d n = ([], 10) := by simp [dread, hd]
    rw [hr]
    clear hr h
    go_enter Try.func25, Try.ntmps25
    go_wp2
    go_ret2
    exact ⟨rfl, rfl⟩
theorem rStop (n : Int) (hn : n ≤ 9223372036854775807) (h : RAt w B rs rp d) : Calls Try.prog 28 #[.pointer (some ⟨B, 0, none⟩), .int .i64 n] w fun e w' => e = .returned (.tuple #[]) ∧ RAt w' B rs rp (dstop d n) ∧ Chg (RS B rs rp) w w' := by
  obtain ⟨sa, cs, ap, cp, _, _, c2, c3, hf, hB⟩ := h.cells
  have f3 := hf 3
  cases hd : d.dead
  · rw [hd] at c2
    have hc := Chg.cellR (B := B) rs rp w 3 (.int .i64 (max n (-1)))
    have hA : RAt (w.setCell ⟨B, 3, none⟩ (.int .i64 (max n (-1)))) B rs rp (dstop d n) := by
      have := h.set3 (decide (0 ≤ n)) n.toNat (by omega) (max n (-1)) (by unfold aft; by_cases h0 : 0 ≤ n <;> simp [h0] <;> omega)
      unfold dstop
      rw [hd] at this ⊢
      exact this
    replace hc := Lib.hid hc
    replace hA := Lib.hid hA
    clear h hf
    go_enter Try.func28, Try.ntmps28
    go_wp2
    go_end0
    exact ⟨rfl, hA.out, hc.out⟩
  · rw [hd] at c2
    have hA : dstop d n = d := by simp [dstop, hd]
    rw [hA]
    replace h := Lib.hid h
    clear hf
    go_enter Try.func28, Try.ntmps28
    go_wp2
    go_end0
    exact ⟨rfl, h.out, Chg.refl _ _⟩
end
end Go.Proofs.Ytnphpnbliigfbaa
