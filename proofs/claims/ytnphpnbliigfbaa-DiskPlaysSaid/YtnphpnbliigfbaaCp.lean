/- Copy: another disk alike, apart from the first. No condition. -/
import Derived.Test.YtnphpnbliigfbaaCl
import Derived.Test.YtnphpnbliigfbaaLSyncs1
import Derived.Deep.RegionHeld3
namespace Go.Proofs.Ytnphpnbliigfbaa
open Go.RowKit

theorem scells_one (l : List (List UInt8)) : ∀ u ∈ scells l, u.oneCell' = true := by
  intro u hu
  simp only [scells, List.mem_map] at hu
  obtain ⟨s, _, rfl⟩ := hu
  rfl
theorem pcells_one : ∀ (l : List (Nat × List UInt8)), ∀ u ∈ pcells l, u.oneCell' = true
  | [], u, hu => by cases hu
  | p :: l, u, hu => by
    simp only [pcells, List.mem_cons] at hu
    rcases hu with rfl | rfl | hu
    · rfl
    · rfl
    · exact pcells_one l u hu

theorem cc_alloc {w : World} {p q : Addr} {u v : Value} (h : w.cell? p = some u ∧ w.cell? q = some v) (o : Obj) : (w.alloc o).cell? p = some u ∧ (w.alloc o).cell? q = some v :=
  ⟨(World.cell?_of_block (w := w) (((Chg.refl (fun _ => False) w).alloc o).block p.block (World.block_lt_of_cell? w _ h.1) (fun h => h))).trans h.1, (World.cell?_of_block (w := w) (((Chg.refl (fun _ => False) w).alloc o).block q.block (World.block_lt_of_cell? w _ h.2) (fun h => h))).trans h.2⟩
theorem cc_set {w : World} {B C : Nat} {u v : Value} (h : w.cell? ⟨B, 0, none⟩ = some u ∧ w.cell? ⟨B, 1, none⟩ = some v) (hne : C ≠ B) (i : Nat) (x : Value) : (w.setCell ⟨C, i, none⟩ x).cell? ⟨B, 0, none⟩ = some u ∧ (w.setCell ⟨C, i, none⟩ x).cell? ⟨B, 1, none⟩ = some v := by
  constructor
  · rw [World.cell?_setCell_other _ _ _ _ (by simp [Ne.symm hne])]; exact h.1
  · rw [World.cell?_setCell_other _ _ _ _ (by simp [Ne.symm hne])]; exact h.2
theorem base_le {w : World} {a b : Nat} {e : TypeId} {size : Nat} {v : Value} {n : Nat} {xs : List Value} (h : w.ownsRow a e size v n xs) (hb : b ≤ a) : w.ownsRow b e size v n xs := by
  refine ⟨h.1, ?_⟩
  rcases h.2 with h | ⟨g, cap, cur, hv, hg, r⟩
  · exact .inl h
  · exact .inr ⟨g, cap, cur, hv, Nat.le_trans hb hg, r⟩
/-- Ahead of the stores: the first disk is what it was, the new block is as it was laid. -/
structure CT (w : World) (B C : Nat) (rs rp : Option Nat) (m : Nat) (d : Dk) (o : Obj) (w' : World) : Prop where
  at1 : DAt w' B rs rp m d
  blk : w'.heap[C]? = some o
  chg : Chg (fun _ => False) w w'
section
variable {w w1 : World} {B C : Nat} {rs rp : Option Nat} {m : Nat} {d : Dk} {o : Obj}
theorem CT.next {w2 : World} (h : CT w B C rs rp m d o w1) (c : Chg (fun _ => False) w1 w2) : CT w B C rs rp m d o w2 :=
  ⟨h.at1.keep c (fun _ _ h => h), c.heap h.blk (fun h => h), h.chg.trans c (fun _ _ h => h)⟩
theorem CT.drew (h : CT w B C rs rp m d o w1) : CT w B C rs rp m d o w1.drew := h.next (Chg.refl _ _).drew
theorem CT.alloc (h : CT w B C rs rp m d o w1) (x : Obj) : CT w B C rs rp m d o (w1.alloc x) := h.next ((Chg.refl _ _).alloc x)
theorem DAt.rows (h : DAt w1 B rs rp m d) {sa ap : Option Addr} {cs cp : Nat} (c0 : w1.cell? ⟨B, 0, none⟩ = some (.slice sa d.safe.length cs)) (c1 : w1.cell? ⟨B, 1, none⟩ = some (.slice ap d.pend.length cp)) :
    w1.ownsRow 0 9 1 (.slice sa d.safe.length cs) d.safe.length (scells d.safe) ∧ w1.ownsRow 0 62 2 (.slice ap d.pend.length cp) d.pend.length (pcells d.pend) := by
  obtain ⟨_, vs, vp, _, _, hb, hs, hp, _⟩ := h
  have e0 : w1.cell? ⟨B, 0, none⟩ = some vs := cell_of hb rfl
  have e1 : w1.cell? ⟨B, 1, none⟩ = some vp := cell_of hb rfl
  rw [c0] at e0
  rw [c1] at e1
  rw [Option.some.inj e0, Option.some.inj e1]
  exact ⟨hs, hp⟩
theorem ct_str {sa ap : Option Addr} {cs cp : Nat} (c : w1.cell? ⟨B, 0, none⟩ = some (.slice sa d.safe.length cs) ∧ w1.cell? ⟨B, 1, none⟩ = some (.slice ap d.pend.length cp)) (h : CT w B C rs rp m d o w1) : Calls Try.prog 35 #[.slice sa d.safe.length cs] w1 fun e w' => ∃ v', e = .returned v' ∧ w'.ownsRow w.heap.size 9 1 v' d.safe.length (scells d.safe) ∧ (w'.cell? ⟨B, 0, none⟩ = some (.slice sa d.safe.length cs) ∧ w'.cell? ⟨B, 1, none⟩ = some (.slice ap d.pend.length cp)) ∧ Chg (fun _ => False) w1 w' ∧ CT w B C rs rp m d o w' :=
  (clone_str (h.at1.rows c.1 c.2).1 h.at1.1.few (scells_one _)).mono fun e w' ⟨v', he, hr, hc⟩ => ⟨v', he, base_le hr h.chg.size, ⟨(World.cell?_of_block (w := w1) (hc.block B (World.block_lt_of_cell? w1 _ c.1) (fun h => h))).trans c.1, (World.cell?_of_block (w := w1) (hc.block B (World.block_lt_of_cell? w1 _ c.2) (fun h => h))).trans c.2⟩, hc, h.next hc⟩
theorem ct_wr {sa ap : Option Addr} {cs cp : Nat} (c : w1.cell? ⟨B, 0, none⟩ = some (.slice sa d.safe.length cs) ∧ w1.cell? ⟨B, 1, none⟩ = some (.slice ap d.pend.length cp)) (h : CT w B C rs rp m d o w1) : Calls Try.prog 36 #[.slice ap d.pend.length cp] w1 fun e w' => ∃ v', e = .returned v' ∧ w'.ownsRow w.heap.size 62 2 v' d.pend.length (pcells d.pend) ∧ (w'.cell? ⟨B, 0, none⟩ = some (.slice sa d.safe.length cs) ∧ w'.cell? ⟨B, 1, none⟩ = some (.slice ap d.pend.length cp)) ∧ Chg (fun _ => False) w1 w' ∧ CT w B C rs rp m d o w' :=
  (clone_wr (h.at1.rows c.1 c.2).2 h.at1.1.many (pcells_one _)).mono fun e w' ⟨v', he, hr, hc⟩ => ⟨v', he, base_le hr h.chg.size, ⟨(World.cell?_of_block (w := w1) (hc.block B (World.block_lt_of_cell? w1 _ c.1) (fun h => h))).trans c.1, (World.cell?_of_block (w := w1) (hc.block B (World.block_lt_of_cell? w1 _ c.2) (fun h => h))).trans c.2⟩, hc, h.next hc⟩

/-- The copy, its map filled so far. -/
structure CpI (w : World) (C : Nat) (v1 v2 : Value) (d : Dk) (k M : Nat) (w' : World) : Prop where
  blk : w'.heap[C]? = some (.cells #[v1, v2, .map (some M), .bool d.stops, .int .i64 (d.after : Int), .bool d.dead] 59 (0, 0))
  r1 : w'.ownsRow w.heap.size 9 1 v1 d.safe.length (scells d.safe)
  r2 : w'.ownsRow w.heap.size 62 2 v2 d.pend.length (pcells d.pend)
  sm : SMap w' M k (latest (d.pend.take k))
  chg : Chg (fun _ => False) w w'
  hM : w.heap.size ≤ M
theorem gen_world {α : Type} {P G : α → Prop} {x : α} (h : P x) (k : ∀ y, P y → G y) : G x := k x h
theorem cp_stores {wk : World} {x y z : Value} {v1 v2 : Value} {M : Nat} (hC : C = w.heap.size) (hb : wk.heap[C]? = some (.cells #[x, y, z, .bool d.stops, .int .i64 (d.after : Int), .bool d.dead] 59 (0, 0)))
    (r1 : wk.ownsRow w.heap.size 9 1 v1 d.safe.length (scells d.safe)) (r2 : wk.ownsRow w.heap.size 62 2 v2 d.pend.length (pcells d.pend)) (chg : Chg (fun _ => False) w wk) :
    (((wk.setCell ⟨C, 0, none⟩ v1).setCell ⟨C, 1, none⟩ v2).setCell ⟨C, 2, none⟩ (.map (some M))).heap[C]? = some (.cells #[v1, v2, .map (some M), .bool d.stops, .int .i64 (d.after : Int), .bool d.dead] 59 (0, 0)) ∧
    (((wk.setCell ⟨C, 0, none⟩ v1).setCell ⟨C, 1, none⟩ v2).setCell ⟨C, 2, none⟩ (.map (some M))).ownsRow w.heap.size 9 1 v1 d.safe.length (scells d.safe) ∧
    (((wk.setCell ⟨C, 0, none⟩ v1).setCell ⟨C, 1, none⟩ v2).setCell ⟨C, 2, none⟩ (.map (some M))).ownsRow w.heap.size 62 2 v2 d.pend.length (pcells d.pend) ∧
    Chg (fun _ => False) w (((wk.setCell ⟨C, 0, none⟩ v1).setCell ⟨C, 1, none⟩ v2).setCell ⟨C, 2, none⟩ (.map (some M))) ∧
    Chg (fun k => k = C) wk (((wk.setCell ⟨C, 0, none⟩ v1).setCell ⟨C, 1, none⟩ v2).setCell ⟨C, 2, none⟩ (.map (some M))) := by
  have c : Chg (fun k => k = C) wk (((wk.setCell ⟨C, 0, none⟩ v1).setCell ⟨C, 1, none⟩ v2).setCell ⟨C, 2, none⟩ (.map (some M))) :=
    Chg.setCell (S := fun k => k = C) (Chg.setCell (S := fun k => k = C) (Chg.setCell (S := fun k => k = C) (Chg.refl _ wk) (a := ⟨C, 0, none⟩) (fun _ => rfl) _) (a := ⟨C, 1, none⟩) (fun _ => rfl) _) (a := ⟨C, 2, none⟩) (fun _ => rfl) _
  refine ⟨?_, c.row r1 ?_, c.row r2 ?_, chg.trans c (fun k hk e => ?_), c⟩
  · simpa using heap_setCell (i := 2) (heap_setCell (i := 1) (heap_setCell (i := 0) hb v1) v2) (.map (some M))
  · rintro k hk rfl
    obtain ⟨cur, hc⟩ := own_block r1 hk
    rw [hb] at hc; simp at hc
  · rintro k hk rfl
    obtain ⟨cur, hc⟩ := own_block r2 hk
    rw [hb] at hc; simp at hc
  · subst e
    omega
theorem cp_a {wk : World} {x y z : Value} {v1 v2 : Value} {M : Nat} (hC : C = w.heap.size) (hb : wk.heap[C]? = some (.cells #[x, y, z, .bool d.stops, .int .i64 (d.after : Int), .bool d.dead] 59 (0, 0)))
    (r1 : wk.ownsRow w.heap.size 9 1 v1 d.safe.length (scells d.safe)) (r2 : wk.ownsRow w.heap.size 62 2 v2 d.pend.length (pcells d.pend)) (chg : Chg (fun _ => False) w wk) (sm : SMap wk M 0 (fun _ => none)) (hM : w.heap.size ≤ M) :
    CpI w C v1 v2 d 0 M (((wk.setCell ⟨C, 0, none⟩ v1).setCell ⟨C, 1, none⟩ v2).setCell ⟨C, 2, none⟩ (.map (some M))) := by
  obtain ⟨e1, e2, e3, e4, e5⟩ := cp_stores (M := M) hC hb r1 r2 chg
  refine ⟨e1, e2, e3, (sm.chg e5 ?_).congr (fun k => ?_), e4, hM⟩
  · rintro rfl
    obtain ⟨es, cl, hc⟩ := sm.block
    rw [hb] at hc; simp at hc
  · simp [latest]
theorem cp_b {wk : World} {x y z : Value} {v1 v2 : Value} (hC : C = w.heap.size) (hb : wk.heap[C]? = some (.cells #[x, y, z, .bool d.stops, .int .i64 (d.after : Int), .bool d.dead] 59 (0, 0)))
    (r1 : wk.ownsRow w.heap.size 9 1 v1 d.safe.length (scells d.safe)) (r2 : wk.ownsRow w.heap.size 62 2 v2 d.pend.length (pcells d.pend)) (chg : Chg (fun _ => False) w wk) :
    CpI w C v1 v2 d 0 wk.heap.size ((((wk.setCell ⟨C, 0, none⟩ v1).setCell ⟨C, 1, none⟩ v2).setCell ⟨C, 2, none⟩ (.map (some wk.heap.size))).alloc (.map #[] 0)) := by
  obtain ⟨e1, e2, e3, e4, e5⟩ := cp_stores (M := wk.heap.size) hC hb r1 r2 chg
  have hs : (((wk.setCell ⟨C, 0, none⟩ v1).setCell ⟨C, 1, none⟩ v2).setCell ⟨C, 2, none⟩ (.map (some wk.heap.size))).heap.size = wk.heap.size := by simp
  have ca := (Chg.refl (fun _ => False) (((wk.setCell ⟨C, 0, none⟩ v1).setCell ⟨C, 1, none⟩ v2).setCell ⟨C, 2, none⟩ (.map (some wk.heap.size)))).alloc (.map #[] 0)
  refine ⟨ca.heap e1 (fun h => h), ca.row e2 (fun _ _ h => h), ca.row e3 (fun _ _ h => h), ?_, e4.trans ca (fun _ _ h => h), chg.size⟩
  have := SMap.made (((wk.setCell ⟨C, 0, none⟩ v1).setCell ⟨C, 1, none⟩ v2).setCell ⟨C, 2, none⟩ (.map (some wk.heap.size)))
  rw [hs] at this
  exact this.congr (fun k => by simp [latest])

theorem CpI.next {v1 v2 : Value} {k M q1 : Nat} {q2 : List UInt8} {wr w2 : World} {cs : Array Value} (h : CpI w C v1 v2 d k M wr) (hlt : k < d.pend.length) (hsn : d.pend.take (k + 1) = d.pend.take k ++ [(q1, q2)])
    (hm : SMap w2 M (k + 1) (fun j => if j = q1 then some q2 else latest (d.pend.take k) j)) (hg : (wr.alloc (.cells cs 62)).grownBy w2 (some M)) : CpI w C v1 v2 d (k + 1) M w2 := by
  have c : Chg (fun j => j = M) wr w2 := Chg.grown (S := fun j => j = M) ((Chg.refl _ wr).alloc _) hg (fun j _ e => by cases e; rfl)
  obtain ⟨es, cl, hb⟩ := h.sm.block
  refine ⟨c.heap h.blk ?_, c.row h.r1 ?_, c.row h.r2 ?_, ?_, h.chg.trans c (fun j hj e => by have := h.hM; omega), h.hM⟩
  · rintro rfl
    rw [h.blk] at hb; simp at hb
  · rintro j hj rfl
    obtain ⟨cur, hc⟩ := own_block h.r1 hj
    rw [hb] at hc; simp at hc
  · rintro j hj rfl
    obtain ⟨cur, hc⟩ := own_block h.r2 hj
    rw [hb] at hc; simp at hc
  · rw [hsn]
    exact hm.congr (fun j => (latest_snoc _ _ _ _).symm)
theorem CpI.done {v1 v2 : Value} {M : Nat} {wr : World} (h : CpI w C v1 v2 d d.pend.length M wr) (ok : d.Ok) (hC : C = w.heap.size) : DAt wr C v1.ownBlock v2.ownBlock M d ∧ Chg (fun _ => False) w wr ∧ (∀ k, DS C v1.ownBlock v2.ownBlock M k → w.heap.size ≤ k) := by
  refine ⟨⟨ok, v1, v2, rfl, rfl, h.blk, own_base h.r1, own_base h.r2, ?_⟩, h.chg, fun k e => ?_⟩
  · have := h.sm
    rw [List.take_length] at this
    exact this
  · rcases e with e | e | e | e
    · omega
    · exact (h.r1.lt k e).1
    · exact (h.r2.lt k e).1
    · subst e; exact h.hM
set_option maxHeartbeats 6400000 in
theorem kCopy (h : DAt w B rs rp m d) : Calls Try.prog 23 #[.pointer (some ⟨B, 0, none⟩)] w fun e w' => ∃ B2 rs2 rp2 m2, e = .returned (.pointer (some ⟨B2, 0, none⟩)) ∧ DAt w' B2 rs2 rp2 m2 d ∧ Chg (fun _ => False) w w' ∧ (∀ k, DS B2 rs2 rp2 m2 k → w.heap.size ≤ k) := by
  have hmm := @run_makeMap Try.prog
  obtain ⟨sa, cs, ap, cp, c0, c1, c2, c3, c4, c5, hf, hB⟩ := h.cells
  go_enter Try.func23, Try.ntmps23
  go_wp2
  obtain ⟨C, hC⟩ : ∃ C, C = w.heap.size := ⟨_, rfl⟩
  obtain ⟨o, ho⟩ : ∃ o, o = Obj.cells #[.slice sa d.safe.length cs, .slice ap d.pend.length cp, .map (some m), .bool d.stops, .int .i64 (d.after : Int), .bool d.dead] 59 (0, 0) := ⟨_, rfl⟩
  have hT : CT w B C rs rp m d o (w.alloc o) := ⟨h.keep ((Chg.refl (fun _ => False) w).alloc o) (fun _ _ h => h), by rw [hC]; exact heap_alloc_new w o, (Chg.refl _ w).alloc o⟩
  have hne : B ≠ C := by omega
  have hne2 : C ≠ B := by omega
  have d0 : (w.alloc o).cell? ⟨B, 0, none⟩ = some (.slice sa d.safe.length cs) := (World.cell?_of_block (w := w) (((Chg.refl (fun _ => False) w).alloc o).block B hB (fun h => h))).trans c0
  have d1 : (w.alloc o).cell? ⟨B, 1, none⟩ = some (.slice ap d.pend.length cp) := (World.cell?_of_block (w := w) (((Chg.refl (fun _ => False) w).alloc o).block B hB (fun h => h))).trans c1
  have f0 : (w.alloc o).cell? ⟨C, 0, none⟩ = some (.slice sa d.safe.length cs) := cell_of (hT.blk.trans (congrArg some ho)) rfl
  have f1 : (w.alloc o).cell? ⟨C, 1, none⟩ = some (.slice ap d.pend.length cp) := cell_of (hT.blk.trans (congrArg some ho)) rfl
  have f2 : (w.alloc o).cell? ⟨C, 2, none⟩ = some (.map (some m)) := cell_of (hT.blk.trans (congrArg some ho)) rfl
  have fz : ∀ i, (w.alloc o).frozen? ⟨C, i, none⟩ = false := fun i => free_of (hT.blk.trans (congrArg some ho))
  rw [← ho, ← hC]
  clear c0 c1 c2 c3 c4 c5 hf
  generalize w.alloc o = w1 at *
  have hw1 := hT.chg.size
  have hs5 : SMap (w1.alloc (.map #[] 0)).drew w1.heap.size 0 (fun _ => none) := (SMap.made w1).chg ((Chg.refl (fun _ => False) _).drew) (fun h => h)
  have dd : w1.drew.cell? ⟨B, 0, none⟩ = some (.slice sa d.safe.length cs) ∧ w1.drew.cell? ⟨B, 1, none⟩ = some (.slice ap d.pend.length cp) := ⟨d0, d1⟩
  have dd2 : (w1.alloc (.map #[] 0)).drew.cell? ⟨B, 0, none⟩ = some (.slice sa d.safe.length cs) ∧ (w1.alloc (.map #[] 0)).drew.cell? ⟨B, 1, none⟩ = some (.slice ap d.pend.length cp) := cc_alloc ⟨d0, d1⟩ _
  have hT2 := (hT.alloc (.map #[] 0)).drew
  replace hT := hT.drew
  replace hC := Lib.hid hC
  replace ho := Lib.hid ho
  go_region_held3 (fun w' => w'.cell? ⟨B, 0, none⟩ = some (.slice sa d.safe.length cs) ∧ w'.cell? ⟨B, 1, none⟩ = some (.slice ap d.pend.length cp)) (with_reducible first | assumption | exact cc_alloc dd _ | exact cc_alloc hcc _ | exact cc_alloc (cc_set hcc hne2 _ _) _ | exact cc_alloc (cc_set (cc_set hcc hne2 _ _) hne2 _ _) _ | exact cc_alloc (cc_set (cc_set (cc_set hcc hne2 _ _) hne2 _ _) hne2 _ _) _ | exact cc_set hcc hne2 _ _ | exact cc_set (cc_set hcc hne2 _ _) hne2 _ _ | exact cc_set (cc_set (cc_set hcc hne2 _ _) hne2 _ _) hne2 _ _)
    (first | (go_at_call 35; refine (ct_str (by assumption) (by with_reducible first | exact hT | exact hT.alloc _ | exact hT2)).mono ?_; rintro e wk ⟨va, rfl, hra, hcc, hcha, hT⟩; have hza := hT.chg.size; obtain ⟨xa, xl, xc, rfl, rfl⟩ := own_form hra; have f0 := cell_of (i := 0) (hT.blk.trans (congrArg some ho.out)) rfl; have f1 := cell_of (i := 1) (hT.blk.trans (congrArg some ho.out)) rfl; have f2 := cell_of (i := 2) (hT.blk.trans (congrArg some ho.out)) rfl; have fz : ∀ i, wk.frozen? ⟨C, i, none⟩ = false := fun i => free_of (hT.blk.trans (congrArg some ho.out)); have hl := lt_of hT.blk; have fz0 := fz 0; have fz1 := fz 1; have fz2 := fz 2) | (go_at_call 36; refine (ct_wr (by assumption) (by with_reducible first | exact hT | exact hT.alloc _ | exact hT2)).mono ?_; rintro e wk ⟨vb, rfl, hrb, hcc, hchb, hT⟩; obtain ⟨ya, yl, yc, rfl, rfl⟩ := own_form hrb; have f0 := cell_of (i := 0) (hT.blk.trans (congrArg some ho.out)) rfl; have f1 := cell_of (i := 1) (hT.blk.trans (congrArg some ho.out)) rfl; have f2 := cell_of (i := 2) (hT.blk.trans (congrArg some ho.out)) rfl; have fz : ∀ i, wk.frozen? ⟨C, i, none⟩ = false := fun i => free_of (hT.blk.trans (congrArg some ho.out)); have hl := lt_of hT.blk; have fz0 := fz 0; have fz1 := fz 1; have fz2 := fz 2))
  all_goals
    have hblk := hT.blk.trans (congrArg some ho.out)
    have hra' := (show ∀ x, Chg (fun _ => False) x wk → x.ownsRow w.heap.size 9 1 (.slice xa d.safe.length xc) d.safe.length (scells d.safe) → wk.ownsRow w.heap.size 9 1 (.slice xa d.safe.length xc) d.safe.length (scells d.safe) from fun x c h => c.row h (fun _ _ h => h)) _ hchb (by first | exact hra | exact ((Chg.refl (fun _ => False) _).alloc _).row hra (fun _ _ h => h))
    refine gen_world (P := fun y => ∃ M, CpI w C (.slice xa d.safe.length xc) (.slice ya d.pend.length yc) d 0 M y) (G := Exit.then _ _ _ _) ?hI ?_
    case hI => first | exact ⟨_, cp_b hC.out hblk hra' hrb hT.chg⟩ | exact ⟨_, cp_a hC.out hblk hra' hrb hT.chg ((SMap.made _).chg hchb (fun h => h)) hza⟩ | exact ⟨_, cp_a hC.out hblk hra' hrb hT.chg ((hs5.chg hcha (fun h => h)).chg hchb (fun h => h)) hw1⟩
  all_goals
    clear hblk hra' hT hza hrb hra hcc hcha hchb f0 f1 f2 fz fz0 fz1 fz2 hl dd dd2 d0 d1 hT2 hs5 hw1 hB
    rintro wz ⟨M, hI⟩
    have i1 := cell_of (i := 1) hI.blk rfl
    replace hI := Lib.hid hI
    have H := Lib.hid h
    clear h
    have few := H.out.1.many
    go_wp2
    go_loopw [28] (fun i wr => ∃ k : Nat, k ≤ d.pend.length ∧ i = .int .i64 k ∧ CpI w C (.slice xa d.safe.length xc) (.slice ya d.pend.length yc) d k M wr) (fun i _ => d.pend.length - (intOf i).toNat)
    case atStart => exact ⟨0, Nat.zero_le _, rfl, hI.out⟩
    case round =>
      obtain ⟨k, hk, rfl, hd⟩ := hrel
      clear hI i1
      by_cases hlt : k < d.pend.length
      · obtain ⟨g, e0, e1, hal, hgl⟩ : ∃ g, wr.cell? ⟨g, k * 2, none⟩ = some (.int .i64 ((d.pend[k]).1 : Int)) ∧ wr.cell? ⟨g, k * 2 + 1, none⟩ = some (.string (mk (d.pend[k]).2)) ∧ ya = some ⟨g, 0, none⟩ ∧ g < wr.heap.size := by
          have hown := hd.r2
          have hcells := fun (g : Nat) => hown.cells (g := g)
          rcases hown.2 with ⟨h0, h1⟩ | ⟨g, cap, cur, hv, _, hg, _⟩
          · omega
          · simp only [Value.slice.injEq, true_and] at hv
            obtain ⟨rfl, rfl⟩ := hv
            have hp := pcells_at d.pend k hlt
            have a0 := hcells g (by simp [Value.ownBlock]) (2 * k) _ hp.1
            have a1 := hcells g (by simp [Value.ownBlock]) (2 * k + 1) _ hp.2
            rw [Addr.add_lit, Nat.zero_add, Nat.mul_comm] at a0 a1
            exact ⟨g, a0, a1, rfl, lt_of hg⟩
        subst hal
        have hpk := H.out.1.pend (d.pend[k]) (List.getElem_mem hlt)
        have hfew := H.out.1.few
        have hsn := List.take_succ_eq_append_getElem hlt
        obtain ⟨q, hq⟩ : ∃ q, q = d.pend[k] := ⟨_, rfl⟩
        rw [← hq] at e0 e1 hpk hsn
        replace hsn := Lib.hid hsn
        have i2 := cell_of (i := 2) hd.blk rfl
        have hCl := lt_of hd.blk
        have hd' := Lib.hid hd
        clear hd hq
        obtain ⟨q1, q2⟩ := q
        simp only at e0 e1 hpk
        go_wp2_with (at_mapUpdate; refine wpList_smap_put rfl (.tmp 33) (.tmp 35) (.tmp 37) rfl rfl (hd'.out.sm.chg ((Chg.refl (fun _ => False) wr).alloc _) (fun h => h)) (by unfold maxLen; omega) q1 q2 rfl rfl (by omega) (by rw [hpk.2]; unfold maxLen; omega) ?_; intro w2 hm2 hg2; have hn := CpI.next hd'.out hlt hsn.out hm2 hg2; replace hn := Lib.hid hn; clear hm2 hg2)
        go_roundw
        case rel => exact ⟨k + 1, hlt, by go_num, hn.out⟩
        case measure => simp [intOf]; omega
      · obtain rfl : k = d.pend.length := by omega
        have hfin := hd.done H.out.1 hC.out
        replace hfin := Lib.hid hfin
        clear hd
        go_wp2
        go_ret
        exact ⟨C, _, _, M, rfl, hfin.out⟩
end
end Go.Proofs.Ytnphpnbliigfbaa
