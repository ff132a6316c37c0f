/- At of a log. No condition but the table of spaces. -/
import Derived.Test.YtofejnhnnmnfpaaDoorWlA
namespace Go.Proofs.YtofejnhnnmnfpaaDoor
set_option maxRecDepth 100000
open Go.RowKit
/-- The cells of the k-th record. -/
theorem LX.recAt {w : World} {B G : Nat} {T : Nat → Prop} {L : Lg} {vl vw : Value} {ps : List Rp} (h : LX w B G T L vl vw ps) (k : Nat) (hk : k < L.l.length) : ∃ g cl p, vl = .slice (some ⟨g, 0, none⟩) L.l.length cl ∧ p.r = L.l[k] ∧ RecK w T p ∧ ∀ i u, i < 14 → p.cells[i]? = some u → w.cell? ⟨g, k * 14 + i, none⟩ = some u := by
  have hkp : k < ps.length := by rw [h.len]; exact hk
  rcases h.rl.2 with ⟨_, h0⟩ | ⟨g, cap, cur, e, _⟩
  · omega
  refine ⟨g, cap, ps[k], e, ?_, (h.rk _ (List.getElem_mem hkp)).wide (fun _ hk => hk.1), fun i u hi hu => ?_⟩
  · simp only [← h.recs, List.getElem_map]
  · have hx : (rpcells ps)[k * 14 + i]? = some u := by rw [rpcells, Rc.flat_at Rp.cells 14 (fun _ => rfl) ps k hkp i hi]; exact hu
    have := h.rl.cells (g := g) (by rw [e]; rfl) (k * 14 + i) u hx
    rwa [Addr.add_lit, Nat.zero_add] at this
/-- What At answers. -/
def AtP (r : Rc.Rec) (w : World) (e : Ending) (w' : World) : Prop := ∃ a1 c1 a2 c2 a3 c3 a4 c4, e = .returned (.tuple #[.agg #[.int .i64 r.kind, .int .i64 r.tx, .int .i64 r.prev, .int .i64 r.next, .string (mk r.key), .bool r.had, .string (mk r.old.key), .string (mk r.old.val), .int .i64 r.old.blob, .int .i64 r.old.size, .slice a1 r.pages.length c1, .slice a2 r.pats.length c2, .slice a3 r.txs.length c3, .slice a4 r.dirty.length c4], .bool true]) ∧ Rc.RecAt w' (.agg #[.int .i64 r.kind, .int .i64 r.tx, .int .i64 r.prev, .int .i64 r.next, .string (mk r.key), .bool r.had, .string (mk r.old.key), .string (mk r.old.val), .int .i64 r.old.blob, .int .i64 r.old.size, .slice a1 r.pages.length c1, .slice a2 r.pats.length c2, .slice a3 r.txs.length c3, .slice a4 r.dirty.length c4]) (.slice a1 r.pages.length c1) (.slice a2 r.pats.length c2) (.slice a3 r.txs.length c3) (.slice a4 r.dirty.length c4) r ∧ Below w.heap.size w w'
/-- The cells of a record as its value has them. -/
theorem rp_cells {w : World} {g k : Nat} {p : Rp} {r : Rc.Rec} (hpr : p.r = r) (hat : Rc.RecAt w p.val p.vp p.vt p.vx p.vd p.r) (hc : ∀ i u, i < 14 → p.cells[i]? = some u → w.cell? ⟨g, k * 14 + i, none⟩ = some u) : ∃ p1 q1 p2 q2 p3 q3 p4 q4, Rc.RecAt w (.agg #[.int .i64 r.kind, .int .i64 r.tx, .int .i64 r.prev, .int .i64 r.next, .string (mk r.key), .bool r.had, .string (mk r.old.key), .string (mk r.old.val), .int .i64 r.old.blob, .int .i64 r.old.size, .slice p1 r.pages.length q1, .slice p2 r.pats.length q2, .slice p3 r.txs.length q3, .slice p4 r.dirty.length q4]) (.slice p1 r.pages.length q1) (.slice p2 r.pats.length q2) (.slice p3 r.txs.length q3) (.slice p4 r.dirty.length q4) r ∧ (w.cell? ⟨g, k * 14, none⟩ = some (.int .i64 r.kind) ∧ w.cell? ⟨g, k * 14 + 1, none⟩ = some (.int .i64 r.tx) ∧ w.cell? ⟨g, k * 14 + 2, none⟩ = some (.int .i64 r.prev) ∧ w.cell? ⟨g, k * 14 + 3, none⟩ = some (.int .i64 r.next) ∧ w.cell? ⟨g, k * 14 + 4, none⟩ = some (.string (mk r.key)) ∧ w.cell? ⟨g, k * 14 + 5, none⟩ = some (.bool r.had) ∧ w.cell? ⟨g, k * 14 + 6, none⟩ = some (.string (mk r.old.key))) ∧ (w.cell? ⟨g, k * 14 + 7, none⟩ = some (.string (mk r.old.val)) ∧ w.cell? ⟨g, k * 14 + 8, none⟩ = some (.int .i64 r.old.blob) ∧ w.cell? ⟨g, k * 14 + 9, none⟩ = some (.int .i64 r.old.size) ∧ w.cell? ⟨g, k * 14 + 10, none⟩ = some (.slice p1 r.pages.length q1) ∧ w.cell? ⟨g, k * 14 + 11, none⟩ = some (.slice p2 r.pats.length q2) ∧ w.cell? ⟨g, k * 14 + 12, none⟩ = some (.slice p3 r.txs.length q3) ∧ w.cell? ⟨g, k * 14 + 13, none⟩ = some (.slice p4 r.dirty.length q4)) := by
  subst hpr
  obtain ⟨p1, q1, p2, q2, p3, q3, p4, q4, e1, e2, e3, e4, e5⟩ := Rc.recAt_form hat
  have hat' := hat
  rw [e5, e1, e2, e3, e4] at hat'
  refine ⟨p1, q1, p2, q2, p3, q3, p4, q4, hat', ⟨hc 0 _ (by omega) rfl, hc 1 _ (by omega) rfl, hc 2 _ (by omega) rfl, hc 3 _ (by omega) rfl, hc 4 _ (by omega) rfl, hc 5 _ (by omega) rfl, hc 6 _ (by omega) rfl⟩, ⟨hc 7 _ (by omega) rfl, hc 8 _ (by omega) rfl, hc 9 _ (by omega) rfl, by rw [← e1]; exact hc 10 _ (by omega) rfl, by rw [← e2]; exact hc 11 _ (by omega) rfl, by rw [← e3]; exact hc 12 _ (by omega) rfl, by rw [← e4]; exact hc 13 _ (by omega) rfl⟩⟩
set_option maxHeartbeats 1000000 in
theorem xAt_yes {w : World} {B G : Nat} {T : Nat → Prop} {L : Lg} {vl vw : Value} {ps : List Rp} (h : LX w B G T L vl vw ps) (hT : Rc.Tab w) (k : Nat) (hk : k < L.l.length) (hl : L.l.length ≤ 1000000) (r : Rc.Rec) (hr : r = L.l[k]) (hok : Rc.RecOk r) :
    Calls Tryd.prog 21 #[.pointer (some ⟨G, 0, none⟩), .int .i64 ((k : Int) + 1)] w (AtP r w) := by
  obtain ⟨oZ, hoZ⟩ : ∃ oZ, oZ = Obj.cells #[.int .i64 0, .int .i64 0, .int .i64 0, .int .i64 0, .string ⟨#[]⟩, .bool false, .string ⟨#[]⟩, .string ⟨#[]⟩, .int .i64 0, .int .i64 0, .slice none 0 0, .slice none 0 0, .slice none 0 0, .slice none 0 0] 37 := ⟨_, rfl⟩
  have hb0 : Below w.heap.size w (w.alloc oZ) := (Below.refl _ _).alloc (Nat.le_refl _) _
  have h0 := h.more hb0
  have hz0 : (w.alloc oZ).heap[w.heap.size]? = some (.cells #[.int .i64 0, .int .i64 0, .int .i64 0, .int .i64 0, .string ⟨#[]⟩, .bool false, .string ⟨#[]⟩, .string ⟨#[]⟩, .int .i64 0, .int .i64 0, .slice none 0 0, .slice none 0 0, .slice none 0 0, .slice none 0 0] 37 (0, 0)) := by rw [hoZ]; exact heap_alloc_new w _
  obtain ⟨g, cl, p, ev, hpr, hK, hc⟩ := h0.recAt k hk
  rw [← hr] at hpr
  obtain ⟨p1, q1, p2, q2, p3, q3, p4, q4, hat, ⟨r0, r1, r2, r3, r4, r5, r6⟩, ⟨r7, r8, r9, r10, r11, r12, r13⟩⟩ := rp_cells hpr hK.at_ hc
  obtain ⟨al, cl', aw, cw, e1, e2, c0, c1, c2, c3, c4, c5, c6, hf, hG⟩ := h0.cells
  rw [ev] at e1
  cases e1
  have hP := Rc.put_any _ _ _ _ _ r (w.alloc oZ) (hT.more hb0) hat
  rw [(Rc.recOk_iff r).2 hok, if_pos rfl] at hP
  have hk1 : (k : Int) + 1 - 1 = (k : Int) := by omega
  have hkl : (k : Int) < L.l.length := by omega
  have hk0 : ¬ ((k : Int) + 1 < 1) := by omega
  have hkn : ¬ ((L.l.length : Int) < (k : Int) + 1) := by omega
  rw [hoZ] at hP c4 hG r0 r1 r2 r3 r4 r5 r6 r7 r8 r9 r10 r11 r12 r13
  replace hP := Lib.hid hP
  have hoZ' := Lib.hid hoZ
  replace hr := Lib.hid hr
  replace hpr := Lib.hid hpr
  replace hz0 := Lib.hid hz0
  clear hoZ c0 c1 c2 c3 c5 c6 hf hc hK hat ev h0 e2
  replace h := Lib.hid h
  go_enter Tryd.func21, Tryd.ntmps21
  go_wp2_with fail
  refine hP.out.mono ?_
  rintro e w1 ⟨rfl, b1⟩
  rw [← hoZ'.out] at b1
  have hz1 := (Chg.of_below (S := fun _ => False) b1).heap hz0.out id
  have q1' := hb0.trans (b1.mono hb0.size)
  have hT1 := hT.more q1'
  replace q1' := Lib.hid q1'
  replace hz1 := Lib.hid hz1
  clear b1 hP hz0 hk1 hkl hk0 hkn c4 r0 r1 r2 r3 r4 r5 r6 r7 r8 r9 r10 r11 r12 r13
  go_wp2_with fail
  refine (Rc.recget_any (Rc.enc r) w1 hT1).mono ?_
  intro e w2 hp
  obtain ⟨y, a1, c1, a2, c2, a3, c3, a4, c4, pf, rfl, hR, hpt, hpf, hb2⟩ := Rc.getLet_of hp
  clear hp
  cases pf with
  | false => exact absurd rfl ((hpf rfl).2 r hok)
  | true =>
    obtain ⟨hy1, hy2⟩ := hpt rfl
    have hyr : y = r := Rc.enc_inj hy1 hok hy2 (Rc.parsed_ex _)
    subst hyr
    clear hpt hpf hy1 hy2
    have hz2 := (Chg.of_below (S := fun _ => False) hb2).heap hz1.out id
    have q2' := q1'.out.trans (hb2.mono q1'.out.size)
    obtain ⟨⟨z0, z1, z2, z3, z4, z5, z6⟩, ⟨z7, z8, z9, z10, z11, z12, z13⟩, hlz⟩ := Rc.rec_cells hz2
    have zf : ∀ i, w2.frozen? ⟨w.heap.size, i, none⟩ = false := fun i => free_of hz2
    obtain ⟨hH, hCh⟩ := Rc.fill14 hz2 (.int .i64 y.kind) (.int .i64 y.tx) (.int .i64 y.prev) (.int .i64 y.next) (.string (mk y.key)) (.bool y.had) (.string (mk y.old.key)) (.string (mk y.old.val)) (.int .i64 y.old.blob) (.int .i64 y.old.size) (.slice a1 y.pages.length c1) (.slice a2 y.pats.length c2) (.slice a3 y.txs.length c3) (.slice a4 y.dirty.length c4)
    have hRF := hR.chg hCh (fun j e _ => by rw [e]; exact Nat.lt_of_lt_of_le (lt_of hz1.out) (Nat.le_refl _))
    have qF := q2'.trans (hCh.below (B := w.heap.size) (fun j _ e => by rw [e]; exact Nat.le_refl _) q2'.size)
    generalize hwF : World.setCell _ _ _ = wF at hH hCh hRF qF
    replace hH := Lib.hid hH
    replace hwF := Lib.hid hwF
    have hR' := Lib.hid hRF.at_
    replace qF := Lib.hid qF
    clear hR hRF hCh q2' hz2
    go_wp2
    rw [hwF.out]
    have zw0 : wF.cell? ⟨w.heap.size, 0, none⟩ = some (.int .i64 y.kind) := cell_of hH.out rfl
    have zw1 : wF.cell? ⟨w.heap.size, 1, none⟩ = some (.int .i64 y.tx) := cell_of hH.out rfl
    have zw2 : wF.cell? ⟨w.heap.size, 2, none⟩ = some (.int .i64 y.prev) := cell_of hH.out rfl
    have zw3 : wF.cell? ⟨w.heap.size, 3, none⟩ = some (.int .i64 y.next) := cell_of hH.out rfl
    have zw4 : wF.cell? ⟨w.heap.size, 4, none⟩ = some (.string (mk y.key)) := cell_of hH.out rfl
    have zw5 : wF.cell? ⟨w.heap.size, 5, none⟩ = some (.bool y.had) := cell_of hH.out rfl
    have zw6 : wF.cell? ⟨w.heap.size, 6, none⟩ = some (.string (mk y.old.key)) := cell_of hH.out rfl
    have zw7 : wF.cell? ⟨w.heap.size, 7, none⟩ = some (.string (mk y.old.val)) := cell_of hH.out rfl
    have zw8 : wF.cell? ⟨w.heap.size, 8, none⟩ = some (.int .i64 y.old.blob) := cell_of hH.out rfl
    have zw9 : wF.cell? ⟨w.heap.size, 9, none⟩ = some (.int .i64 y.old.size) := cell_of hH.out rfl
    have zw10 : wF.cell? ⟨w.heap.size, 10, none⟩ = some (.slice a1 y.pages.length c1) := cell_of hH.out rfl
    have zw11 : wF.cell? ⟨w.heap.size, 11, none⟩ = some (.slice a2 y.pats.length c2) := cell_of hH.out rfl
    have zw12 : wF.cell? ⟨w.heap.size, 12, none⟩ = some (.slice a3 y.txs.length c3) := cell_of hH.out rfl
    have zw13 : wF.cell? ⟨w.heap.size, 13, none⟩ = some (.slice a4 y.dirty.length c4) := cell_of hH.out rfl
    clear z0 z1 z2 z3 z4 z5 z6 z7 z8 z9 z10 z11 z12 z13 zf hlz
    refine bodyPost_ret (v := .tuple #[.agg #[.int .i64 y.kind, .int .i64 y.tx, .int .i64 y.prev, .int .i64 y.next, .string (mk y.key), .bool y.had, .string (mk y.old.key), .string (mk y.old.val), .int .i64 y.old.blob, .int .i64 y.old.size, .slice a1 y.pages.length c1, .slice a2 y.pats.length c2, .slice a3 y.txs.length c3, .slice a4 y.dirty.length c4], .bool true]) (by simp [results, Tryd.results21, go_sem, zw0, zw1, zw2, zw3, zw4, zw5, zw6, zw7, zw8, zw9, zw10, zw11, zw12, zw13
      ]) rfl ?_
    exact ⟨a1, c1, a2, c2, a3, c3, a4, c4, rfl, hR'.out, qF.out⟩
set_option maxHeartbeats 1000000 in
theorem xAt_no {w : World} {B G : Nat} {T : Nat → Prop} {L : Lg} {vl vw : Value} {ps : List Rp} (h : LX w B G T L vl vw ps) (n : Int) (hn : n < 1 ∨ (L.l.length : Int) < n) :
    Calls Tryd.prog 21 #[.pointer (some ⟨G, 0, none⟩), .int .i64 n] w fun e w' => e = .returned (.tuple #[Rc.zrec, .bool false]) ∧ Below w.heap.size w w' := by
  obtain ⟨al, cl', aw, cw, e1, e2, c0, c1, c2, c3, c4, c5, c6, hf, hG⟩ := h.cells
  have hz0 : (w.alloc (.cells #[.int .i64 0, .int .i64 0, .int .i64 0, .int .i64 0, .string ⟨#[]⟩, .bool false, .string ⟨#[]⟩, .string ⟨#[]⟩, .int .i64 0, .int .i64 0, .slice none 0 0, .slice none 0 0, .slice none 0 0, .slice none 0 0] 37)).heap[w.heap.size]? = some (.cells #[.int .i64 0, .int .i64 0, .int .i64 0, .int .i64 0, .string ⟨#[]⟩, .bool false, .string ⟨#[]⟩, .string ⟨#[]⟩, .int .i64 0, .int .i64 0, .slice none 0 0, .slice none 0 0, .slice none 0 0, .slice none 0 0] 37 (0, 0)) := heap_alloc_new w _
  have hb0 : Below w.heap.size w (w.alloc (.cells #[.int .i64 0, .int .i64 0, .int .i64 0, .int .i64 0, .string ⟨#[]⟩, .bool false, .string ⟨#[]⟩, .string ⟨#[]⟩, .int .i64 0, .int .i64 0, .slice none 0 0, .slice none 0 0, .slice none 0 0, .slice none 0 0] 37)) := (Below.refl _ _).alloc (Nat.le_refl _) _
  obtain ⟨⟨z0, z1, z2, z3, z4, z5, z6⟩, ⟨z7, z8, z9, z10, z11, z12, z13⟩, hlz⟩ := Rc.rec_cells hz0
  have zf : ∀ i, (w.alloc (.cells #[.int .i64 0, .int .i64 0, .int .i64 0, .int .i64 0, .string ⟨#[]⟩, .bool false, .string ⟨#[]⟩, .string ⟨#[]⟩, .int .i64 0, .int .i64 0, .slice none 0 0, .slice none 0 0, .slice none 0 0, .slice none 0 0] 37)).frozen? ⟨w.heap.size, i, none⟩ = false := fun i => free_of hz0
  have zg : Tryd.results21 = Tryd.results21 := rfl
  replace hb0 := Lib.hid hb0
  clear hz0 c0 c1 c2 c3 c5 c6 hf h e1 e2 zg
  by_cases h1 : n < 1
  · go_enter Tryd.func21, Tryd.ntmps21
    go_wp2
    refine bodyPost_ret (v := .tuple #[.agg #[.int .i64 0, .int .i64 0, .int .i64 0, .int .i64 0, .string ⟨#[]⟩, .bool false, .string ⟨#[]⟩, .string ⟨#[]⟩, .int .i64 0, .int .i64 0, .slice none 0 0, .slice none 0 0, .slice none 0 0, .slice none 0 0], .bool false]) (by simp [results, Tryd.results21, go_sem, z0, z1, z2, z3, z4, z5, z6, z7, z8, z9, z10, z11, z12, z13]) rfl ?_
    exact ⟨rfl, hb0.out⟩
  · have h2 : (L.l.length : Int) < n := by omega
    clear hn
    go_enter Tryd.func21, Tryd.ntmps21
    go_wp2
    refine bodyPost_ret (v := .tuple #[.agg #[.int .i64 0, .int .i64 0, .int .i64 0, .int .i64 0, .string ⟨#[]⟩, .bool false, .string ⟨#[]⟩, .string ⟨#[]⟩, .int .i64 0, .int .i64 0, .slice none 0 0, .slice none 0 0, .slice none 0 0, .slice none 0 0], .bool false]) (by simp [results, Tryd.results21, go_sem, z0, z1, z2, z3, z4, z5, z6, z7, z8, z9, z10, z11, z12, z13]) rfl ?_
    exact ⟨rfl, hb0.out⟩
end Go.Proofs.YtofejnhnnmnfpaaDoor
