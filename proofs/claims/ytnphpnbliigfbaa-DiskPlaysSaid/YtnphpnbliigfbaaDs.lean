/- What settle of a disk leaves. No condition. -/
import Derived.Test.YtnphpnbliigfbaaDw
import Derived.BigRegion
namespace Go.Proofs.Ytnphpnbliigfbaa
open Go.RowKit

/-- Writes laid down, one behind the other. -/
def dset (l : List (List UInt8)) (ps : List (Nat × List UInt8)) : List (List UInt8) := ps.foldl (fun l p => l.set p.1 p.2) l
theorem dset_length (ps : List (Nat × List UInt8)) : ∀ l, (dset l ps).length = l.length := by
  induction ps with
  | nil => intro l; rfl
  | cons p ps ih => intro l; rw [dset, List.foldl_cons]; exact (ih _).trans (by simp)
theorem dset_snoc (l : List (List UInt8)) (ps : List (Nat × List UInt8)) (p : Nat × List UInt8) : dset l (ps ++ [p]) = (dset l ps).set p.1 p.2 := by simp [dset]
theorem dset_mem (ps : List (Nat × List UInt8)) (P : List UInt8 → Prop) (hp : ∀ p ∈ ps, P p.2) : ∀ l, (∀ s ∈ l, P s) → ∀ s ∈ dset l ps, P s := by
  induction ps with
  | nil => intro l h; exact h
  | cons p ps ih =>
    intro l h
    rw [dset, List.foldl_cons]
    refine ih (fun q hq => hp q (List.mem_cons_of_mem _ hq)) _ fun s hs => ?_
    rcases List.mem_or_eq_of_mem_set hs with hs | hs
    · exact h s hs
    · rw [hs]; exact hp p List.mem_cons_self

section
variable {w : World} {B : Nat} {rs rp : Option Nat} {m : Nat} {d : Dk}
/-- The disk with one sector laid down. -/
theorem DAt.lay (h : DAt w B rs rp m d) (n : Nat) (s : List UInt8) (hn : n < d.safe.length) (hs : s.length = 64) :
    ∃ g c u, w.cell? ⟨B, 0, none⟩ = some (.slice (some ⟨g, 0, none⟩) d.safe.length c) ∧ rs = some g ∧ g < w.heap.size ∧ B < w.heap.size ∧ w.cell? ⟨g, n, none⟩ = some u ∧ w.frozen? ⟨g, n, none⟩ = false ∧
      ∀ w1, Chg (fun _ => False) w w1 → DAt (w1.setCell ⟨g, n, none⟩ (.string (mk s))) B rs rp m { d with safe := d.safe.set n s } ∧ Chg (fun j => rs = some j) w (w1.setCell ⟨g, n, none⟩ (.string (mk s))) := by
  have hne := h.own_ne
  have hne2 := h.rows_ne
  obtain ⟨g, c, c0, hg, cg⟩ := h.safeAt n hn
  obtain ⟨ok, vs, vp, hrs, hrp, hb, hs', hp, hm⟩ := h
  have hvs : vs = .slice (some ⟨g, 0, none⟩) d.safe.length c := by
    have e := cell_of (i := 0) hb rfl
    rw [c0] at e
    exact (Option.some.inj e).symm
  subst hvs
  refine ⟨g, c, _, c0, hg, World.block_lt_of_cell? w _ cg, lt_of hb, cg, hs'.frozenAt n, fun w1 hc => ?_⟩
  have hst := (hc.row hs' (fun _ _ h => h)).stored n (.string (mk s))
  have hgB : g ≠ B := fun e => hne.1 (by rw [hg, e])
  have hgm : g ≠ m := fun e => hne2.2.1 (by rw [hg, e])
  have c2 : Chg (fun k => k = g) w (w1.setCell ⟨g, n, none⟩ (.string (mk s))) := Chg.setCell (S := fun k => k = g) (hc.mono (fun _ _ h => h.elim)) (a := ⟨g, n, none⟩) (fun _ => rfl) _
  refine ⟨⟨⟨by simpa using ok.few, ?_, by simpa using ok.pend, ok.after, ok.many⟩, _, vp, hrs, hrp, ?_, ?_, c2.row hp (fun k hk e => hne2.1 g hg (by rw [← hrp, hk, e])), hm.chg c2 (fun e => hgm e.symm)⟩, c2.mono (fun j _ e => by rw [hg, e])⟩
  · intro t ht
    rcases List.mem_or_eq_of_mem_set ht with ht | ht
    · exact ok.size t ht
    · rw [ht]; exact hs
  · have := c2.heap hb (fun e => hgB e.symm)
    simpa using this
  · simp only [List.length_set]
    rw [show scells (d.safe.set n s) = (scells d.safe).set n (.string (mk s)) by simp [scells, List.map_set]]
    exact hst.1

/-- Nothing is pending any more: the slice's store, then the map cleared. -/
theorem DAt.cleared (h : DAt w B rs rp m d) : SMap (w.setCell ⟨B, 1, none⟩ (.slice none 0 0)) m d.pend.length (latest d.pend) ∧
    ∀ w2, SMap w2 m 0 (fun _ => none) → (w.setCell ⟨B, 1, none⟩ (.slice none 0 0)).grownBy w2 (some m) → DAt w2 B rs none m { d with pend := [] } ∧ Chg (fun j => j = B ∨ j = m) w w2 := by
  have hne := h.own_ne
  have hne2 := h.rows_ne
  obtain ⟨ok, vs, vp, hrs, hrp, hb, hs, hp, hm⟩ := h
  have c1 : Chg (fun j => j = B) w (w.setCell ⟨B, 1, none⟩ (.slice none 0 0)) := Chg.setCell (S := fun j => j = B) (Chg.refl _ _) (a := ⟨B, 1, none⟩) (fun _ => rfl) _
  refine ⟨hm.chg c1 hne.2.2, fun w2 hm2 hg => ?_⟩
  have c2 : Chg (fun j => j = m) (w.setCell ⟨B, 1, none⟩ (.slice none 0 0)) w2 := (Chg.refl _ _).grown hg (fun j _ e => by cases e; rfl)
  have c3 : Chg (fun j => j = B ∨ j = m) w w2 := (c1.mono (fun _ _ e => .inl e)).trans c2 (fun _ _ e => .inr e)
  refine ⟨⟨⟨ok.few, ok.size, by simp, ok.after, by simp⟩, vs, .slice none 0 0, hrs, rfl, ?_, c3.row hs (fun k hk e => ?_), World.ownsRow_nil _ _ _ _, hm2.congr (fun _ => rfl)⟩, c3⟩
  · have := c2.heap (heap_setCell (i := 1) hb (.slice none 0 0)) (fun e => hne.2.2 e.symm)
    simpa using this
  · rcases e with e | e
    · exact hne.1 (by rw [← hrs, hk, e])
    · exact hne2.2.1 (by rw [← hrs, hk, e])

set_option maxHeartbeats 800000 in
theorem ksettle (vl : Value) (ps : List (Nat × List UInt8)) (h : DAt w B rs rp m d) (hl : w.ownsRow 0 62 2 vl ps.length (pcells ps)) (hps : ∀ p ∈ ps, p.1 < d.safe.length ∧ p.2.length = 64) (hfew : ps.length ≤ 1000000) :
    Calls Try.prog 34 #[.pointer (some ⟨B, 0, none⟩), vl] w fun e w' => e = .returned (.tuple #[]) ∧ DAt w' B rs none m { d with safe := dset d.safe ps, pend := [] } ∧ Chg (DS B rs none m) w w' := by
  obtain ⟨al, ll, cl, rfl, rfl⟩ := own_form hl
  go_enter Try.func34, Try.ntmps34
  go_wp2
  go_loopw [8] (fun i wr => ∃ k : Nat, k ≤ ps.length ∧ i = .int .i64 k ∧ DAt wr B rs rp m { d with safe := dset d.safe (ps.take k) } ∧ wr.ownsRow 0 62 2 (.slice al ps.length cl) ps.length (pcells ps) ∧ Chg (fun j => rs = some j) w wr) (fun i _ => ps.length - (intOf i).toNat)
  case atStart => exact ⟨0, Nat.zero_le _, rfl, h, hl, Chg.refl _ _⟩
  case round =>
    obtain ⟨k, hk, rfl, hd, ho, hc⟩ := hrel
    by_cases hlt : k < ps.length
    · obtain ⟨g, e0, e1, hal⟩ : ∃ g, wr.cell? ⟨g, k * 2, none⟩ = some (.int .i64 ((ps[k]).1 : Int)) ∧ wr.cell? ⟨g, k * 2 + 1, none⟩ = some (.string (mk (ps[k]).2)) ∧ al = some ⟨g, 0, none⟩ := by
        have hcells := fun (g : Nat) => ho.cells (g := g)
        rcases ho.2 with ⟨h0, h1⟩ | ⟨g, cap, cur, hv, _⟩
        · omega
        · simp only [Value.slice.injEq, true_and] at hv
          obtain ⟨rfl, rfl⟩ := hv
          have hp := pcells_at ps k hlt
          have a0 := hcells g (by simp [Value.ownBlock]) (2 * k) _ hp.1
          have a1 := hcells g (by simp [Value.ownBlock]) (2 * k + 1) _ hp.2
          rw [Addr.add_lit, Nat.zero_add, Nat.mul_comm] at a0 a1
          exact ⟨g, a0, a1, rfl⟩
      subst hal
      obtain ⟨p, hp⟩ : ∃ p, p = ps[k] := ⟨_, rfl⟩
      rw [← hp] at e0 e1
      have HP := Lib.hid hp
      clear hp
      have hpin : p.1 < d.safe.length ∧ p.2.length = 64 := hps p (by rw [HP.out]; exact List.getElem_mem hlt)
      obtain ⟨gs, c, u, c0, hrs, hgs, hB, ct, ft, hlay⟩ := hd.lay p.1 p.2 (by rw [dset_length]; exact hpin.1) hpin.2
      simp only [dset_length] at c0
      have hin : p.1 < d.safe.length := hpin.1
      have HL := Lib.hid hlay
      clear hlay hpin
      go_wp2
      go_region
      have hw1 := HL.out (wr.alloc (.cells #[.int .i64 (p.1 : Int), .string (mk p.2)] 62)).drew ((Chg.refl _ _).alloc _).drew
      obtain ⟨hd2, hc2⟩ := hw1
      have ho2 := hc2.row ho (fun j hj e => by
        obtain ⟨cur, h1⟩ := own_block ho hj
        obtain ⟨_, vs, _, hvs, _, _, hs, _⟩ := hd
        rw [← hvs] at e
        obtain ⟨cur', h2⟩ := own_block hs e
        rw [h1] at h2; simp at h2)
      have hsn : dset d.safe (ps.take (k + 1)) = (dset d.safe (ps.take k)).set p.1 p.2 := by rw [List.take_succ_eq_append_getElem hlt, dset_snoc, HP.out]
      have hrel : DAt ((wr.alloc (.cells #[.int .i64 (p.1 : Int), .string (mk p.2)] 62)).drew.setCell ⟨gs, p.1, none⟩ (.string (mk p.2))) B rs rp m { d with safe := dset d.safe (ps.take (k + 1)) } := by rw [hsn]; exact hd2
      have hcc := hc.trans hc2 (fun _ _ h => h)
      have heq : (wr.alloc (.cells #[.int .i64 (p.1 : Int), .string (mk p.2)] 62)).drew.setCell ⟨gs, p.1, none⟩ (.string (mk p.2)) = ((wr.setCell ⟨gs, p.1, none⟩ (.string (mk p.2))).alloc (.cells #[.int .i64 (p.1 : Int), .string (mk p.2)] 62)).drew := by
        rw [World.setCell_drew, World.setCell_alloc_past _ _ _ _ hgs]
      rw [heq] at hrel ho2 hcc
      clear heq
      replace hrel := Lib.hid hrel
      replace ho2 := Lib.hid ho2
      replace hcc := Lib.hid hcc
      clear hd2 hc2 hsn
      go_wp2
      go_roundw
      case rel =>
        exact ⟨k + 1, hlt, by go_num, hrel.out, ho2.out, hcc.out⟩
      case measure => simp [intOf]; omega
    · have e : k = ps.length := by omega
      subst e
      rw [List.take_length] at hd
      obtain ⟨sa, cs, ap, cp, c0, c1, c2, c3, c4, c5, hf, hB⟩ := hd.cells
      have f1 := hf 1
      clear hf c0 c3 c4 c5
      obtain ⟨hm, hfin⟩ := hd.cleared
      have HM := Lib.hid hm
      have HF := Lib.hid hfin
      have HC := Lib.hid hc
      clear hm hfin hc ho hd
      go_wp2_with (with_reducible refine wpList_smap_clear rfl (.tmp 28) rfl rfl HM.out ?_; intro w2 hm2 hg2; have fin := HF.out w2 hm2 hg2; clear hm2 hg2)
      go_end0
      refine ⟨rfl, fin.1, (HC.out.mono (fun j _ e => .inr (.inl e))).trans fin.2 (fun j _ e => by rcases e with e | e; exact .inl e; exact .inr (.inr (.inr e)))⟩
end
end Go.Proofs.Ytnphpnbliigfbaa
