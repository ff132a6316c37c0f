/- The walk of the law WalLasts. No condition but the table of spaces. -/
import Derived.Test.YtofejnhnnmnfpaaDoorWlH
import Derived.Test.YtofejnhnnmnfpaaDoorWlG
import Derived.Deep.Grids
import Derived.Deep.LoopGhost
import Derived.Deep.RegionLaw
import Derived.Deep.RegionHeld3
namespace Go.Proofs.YtofejnhnnmnfpaaDoor
set_option maxRecDepth 100000
open Go.RowKit
section
open Go.ChangeShapes Go.WideShapes Go.ChangeAt Go.Deep
/-- Its length, its cells. -/
def IsBools (w : World) (v : Value) (ks : List Bool) : Prop := ∃ a c, v = .slice a ks.length c ∧ Dq.BAt w a ks
theorem open_bools1 {H : Type} {enc : TypeId × Value → H} {W : World} {base : Nat} {v : Value} {d : DataW H} {p : List MemPlace}
    (hval : Value.okWide Tryd.prog W .any base 52 v) (h : DataW.Trod enc Tryd.prog W 0 (fun _ => true) true 52 v d p) : ∃ ks, IsBools W v ks := by
  obtain ⟨a0, len, cap, rfl⟩ := okWide_slice Tryd.underlying52 hval
  obtain ⟨fuel, hf⟩ := h
  rcases open_bools Tryd.underlying52 Tryd.underlying4 (by kernel_rfl) hf with ⟨hcs, _⟩ | ⟨a, len', cap', F, hcs, _, hl, hm, _, hcell⟩
  · simp [Value.cells] at hcs
    obtain ⟨rfl, rfl, rfl⟩ := hcs
    exact ⟨[], none, 0, rfl, fun j h => by simp at h⟩
  · simp [Value.cells] at hcs
    obtain ⟨rfl, rfl, rfl⟩ := hcs
    refine ⟨(List.range len).map F, some a, cap, by simp, fun j hj => ?_⟩
    have hj' : j < len := by simpa using hj
    have hc := hcell j (by omega)
    obtain ⟨b, o, sp⟩ := a
    have hsp : sp = none := by simpa [Addr.add] using World.cell?_spot (hcell 0 (by omega))
    subst hsp
    refine ⟨b, o, rfl, ?_⟩
    rw [Addr.add_lit] at hc
    rw [hc]
    simp
end
theorem RpIn.recK {w : World} {p : Rp} (h : RpIn w p) : RecK w (fun k => k < w.heap.size) p := fun _ _ hc hd => h.at_.more (hc.below (B := w.heap.size) (fun k hk e => absurd e (hd k hk)) (Nat.le_refl _))
theorem cells_ones {w : World} {ps : List Rp} (h : ∀ p ∈ ps, RpIn w p) : ∀ u ∈ rpcells ps, u.oneCell' = true := by
  intro u hu
  obtain ⟨p, hp, hu⟩ := List.mem_flatMap.1 hu
  exact Rp.cells_one p (h p hp).recK u hu
/-- The cells of one of a row's records. -/
theorem row_cells {w : World} {v : Value} {ps : List Rp} {base i : Nat} (h : w.ownsRow base 37 14 v ps.length (rpcells ps)) (hi : i < ps.length) (p : Rp) (hp : p = ps[i]) : ∃ g c, v = .slice (some ⟨g, 0, none⟩) ps.length c ∧ g < w.heap.size ∧ ∀ k u, k < 14 → p.cells[k]? = some u → w.cell? ⟨g, i * 14 + k, none⟩ = some u := by
  rcases h.2 with ⟨_, h0⟩ | ⟨g, cap, cur, e, _⟩
  · omega
  refine ⟨g, cap, e, (h.lt g (by rw [e]; rfl)).2, fun k u hk hu => ?_⟩
  have hx : (rpcells ps)[i * 14 + k]? = some u := by rw [rpcells_at ps i hi k hk, ← hp]; exact hu
  have := h.cells (g := g) (by rw [e]; rfl) (i * 14 + k) u hx
  rwa [Addr.add_lit, Nat.zero_add] at this
/-- Two rows, one behind the other, and a log. -/
theorem LaI.start {w w3 w4 w5 : World} {B G : Nat} {pa pb : List Rp} {v1 v2 : Value} (hS : Sys No w.heap.size w w3 B (Dq.dnew 2100) G ⟨2, 2000, 5, [], [], 0⟩)
    (h1 : AppPost w3 w.heap.size 37 14 (.slice none 0 0) 0 [] pa.length (rpcells pa) v1 w4) (h2 : AppPost w4 w.heap.size 37 14 v1 pa.length (rpcells pa) pb.length (rpcells pb) v2 w5) :
    LaI w w5 B (Dq.dnew 2100) G ⟨2, 2000, 5, [], [], 0⟩ [] Fr.st0 v2 (.slice none 0 0) (pa ++ pb) 0 := by
  have c1 : Chg (fun _ => False) w3 w4 := h1.chg.mono (fun k _ e => by simp [Value.ownBlock] at e)
  have b1 : Below w3.heap.size w3 w4 := c1.below (fun _ _ e => e.elim) (Nat.le_refl _)
  have hv1 : ∀ k, v1.ownBlock = some k → w3.heap.size ≤ k := fun k e => by
    rcases h1.blk e with e | e
    · simp [Value.ownBlock] at e
    · exact e
  have b2 : Below w3.heap.size w4 w5 := h2.chg.below (fun k _ e => hv1 k e) b1.size
  have b : Below w3.heap.size w3 w5 := b1.trans b2
  have hr := h2.1
  rw [← rpcells_append, ← List.length_append] at hr
  have hS5 := hS.more b
  refine ⟨hS.rebase (Chg.of_below b) (fun k hk => ?_), hS5.was.1, hr, World.ownsRow_nil _ _ _ _, fun k _ e => by simp [Value.ownBlock] at e, on_new 2100 2 2000 5 (by omega) (by omega) (by omega) (by omega), rfl, rfl, rfl, rfl, by simp [Dq.dnew], rfl, Nat.zero_le _, .inl rfl⟩
  rcases hk with e | e
  · refine ⟨.inr ?_, (hr.lt k e).2⟩
    rcases h2.blk e with e | e
    · exact hv1 k e
    · have := b1.size; omega
  · simp [Value.ownBlock] at e
set_option maxHeartbeats 6400000 in
theorem walLasts_walk (v0 : Value) (ra : List Rc.Rec) (v1 : Value) (rb : List Rc.Rec) (stop : Int) (v3 : Value) (ks : List Bool) (w : World) (hT : Rc.Tab w) (ha : Rc.IsRecs w v0 ra) (hb : Rc.IsRecs w v1 rb) (q2 : (Lit.int .i64 stop).wf = true) (hk : IsBools w v3 ks) :
    Calls Tryd.prog 7 #[v0, v1, .int .i64 stop, v3] w fun e w' => e = .returned (.bool true) ∧ Below w.heap.size w w' := by
  obtain ⟨ir, hir, hr0, hr1, hr2⟩ := info_parts infoRec
  have r2 := wf_i64 q2
  clear q2
  obtain ⟨aa, ca, rfl, _, hca⟩ := ha
  obtain ⟨ab, cb, rfl, _, hcb⟩ := hb
  obtain ⟨ak, ck, rfl, hck⟩ := hk
  by_cases t1 : (10 : Int) < (ra.length : Nat)
  case pos =>
    go_enter Tryd.func7, Tryd.ntmps7
    go_wp2_with fail
    refine (alive_true w hT).mono ?_
    rintro e w1 ⟨rfl, b1⟩
    go_wp2
    go_ret
    exact ⟨rfl, b1⟩
  by_cases t2 : (10 : Int) < (rb.length : Nat)
  case pos =>
    go_enter Tryd.func7, Tryd.ntmps7
    go_wp2_with fail
    refine (alive_true w hT).mono ?_
    rintro e w1 ⟨rfl, b1⟩
    go_wp2
    go_ret
    exact ⟨rfl, b1⟩
  by_cases t3 : (80 : Int) < (ks.length : Nat)
  case pos =>
    go_enter Tryd.func7, Tryd.ntmps7
    go_wp2_with fail
    refine (alive_true w hT).mono ?_
    rintro e w1 ⟨rfl, b1⟩
    go_wp2
    go_ret
    exact ⟨rfl, b1⟩
  have hla : ra.length ≤ 10 := by omega
  have hlb : rb.length ≤ 10 := by omega
  obtain ⟨pa, epa, hpa, hda⟩ := rows_rp hca
  obtain ⟨pb, epb, hpb, hdb⟩ := rows_rp hcb
  have hna : pa.length = ra.length := by rw [← epa, List.length_map]
  have hnb : pb.length = rb.length := by rw [← epb, List.length_map]
  have hps : ∀ p ∈ pa ++ pb, RpIn w p := fun p hp => (List.mem_append.1 hp).elim (hpa p) (hpb p)
  have hoa := cells_ones hpa
  have hob := cells_ones hpb
  have hon := Lib.hid (on_new 2100 2 2000 5 (by omega) (by omega) (by omega) (by omega))
  rw [← hna] at hda hla t1
  rw [← hnb] at hdb hlb t2
  obtain ⟨na, hnna⟩ : ∃ na, na = pa.length := ⟨_, rfl⟩
  obtain ⟨nb, hnnb⟩ : ∃ nb, nb = pb.length := ⟨_, rfl⟩
  rw [← hnna] at hda hla t1
  rw [← hnnb] at hdb hlb t2
  have ena : ra.length = na := by omega
  have enb : rb.length = nb := by omega
  rw [ena, enb]
  have hcells1 : (rpcells pa).length = na * 14 := by rw [rpcells_len, hnna]
  have hcells2 : (rpcells pb).length = nb * 14 := by rw [rpcells_len, hnnb]
  replace hck := Lib.hid hck
  replace hps := Lib.hid hps
  replace hda := Lib.hid hda
  replace hdb := Lib.hid hdb
  replace hoa := Lib.hid hoa
  replace hob := Lib.hid hob
  replace hcells1 := Lib.hid hcells1
  replace hcells2 := Lib.hid hcells2
  replace hnna := Lib.hid hnna
  replace hnnb := Lib.hid hnnb
  clear hca hcb hpa hpb hna hnb epa epb ena enb
  go_enter Tryd.func7, Tryd.ntmps7
  go_wp2_with fail
  refine (alive_true w hT).mono ?_
  rintro e w1 ⟨rfl, b1⟩
  replace b1 := Lib.hid b1
  go_wp2_with fail
  refine (Dq.iNew (H := w.heap.size) (w0 := w) 2100 (by omega) (by omega) b1.out b1.out.size).mono ?_
  rintro e w2 ⟨B, rfl, hD⟩
  have hT2 := hT.more hD.was.1
  replace hD := Lib.hid hD
  go_wp2_with fail
  refine (sOpen hT2 hD.out hon.out rfl (by show 0 < 5; omega)).mono ?_
  rintro e w3 ⟨G, rfl, hS, b3⟩
  have hb3 := hS.was.1
  have hz3 := hb3.size
  replace hS := Lib.hid hS
  replace hb3 := Lib.hid hb3
  clear b3 hD b1 hT2 hon
  go_wp2_with (at_builtin; first | (refine wpList_append_rd rfl _ _ 45 rfl w.heap.size 37 ir Rc.zrec 14 200 Tryd.underlying45 hir hr0 hr1 hr2 rfl (by decide) (.slice none 0 0) 0 [] rfl (World.ownsRow_nil _ _ _ _) _ na (rpcells pa) rfl hcells1.out ((hda.out _).more hb3.out) hoa.out (by unfold maxLen; omega) (by omega) hz3 ?_; intro v1 w4 hp1; have ho1 := hp1.1; rw [Nat.zero_add, List.nil_append] at ho1; obtain ⟨a1, m1, c1, rfl, hm1⟩ := own_form ho1; subst hm1; have hz4 := hp1.grows; have hb4 := hp1.chg.below (B := w.heap.size) (fun k _ e => by simp [Value.ownBlock] at e) hz3; replace hb4 := Lib.hid (hb3.out.trans hb4); replace hp1 := Lib.hid hp1; replace ho1 := Lib.hid ho1) | (refine wpList_append_rd rfl _ _ 45 rfl w.heap.size 37 ir Rc.zrec 14 200 Tryd.underlying45 hir hr0 hr1 hr2 rfl (by decide) (.slice a1 m1 c1) m1 (rpcells pa) rfl ho1.out _ nb (rpcells pb) rfl hcells2.out ((hdb.out _).more hb4.out) hob.out (by unfold maxLen; omega) (by omega) (Nat.le_trans hz3 hz4) ?_; intro v2 w5 hp2; obtain ⟨aj, mj, cj, rfl, hmj⟩ := own_form hp2.1; subst hmj; replace hp2 := Lib.hid hp2))
  have hI0 : LaI w w5 B (Dq.dnew 2100) G ⟨2, 2000, 5, [], [], 0⟩ [] Fr.st0 (.slice aj (m1 + nb) cj) (.slice none 0 0) (pa ++ pb) 0 := LaI.start hS.out (by rw [← hnna.out]; exact hp1.out) (by rw [← hnna.out, ← hnnb.out]; exact hp2.out)
  obtain ⟨n, hn⟩ : ∃ n, n = m1 + nb := ⟨_, rfl⟩
  obtain ⟨ps, hpsd⟩ : ∃ ps, ps = pa ++ pb := ⟨_, rfl⟩
  have hpl : ps.length = n := by rw [hpsd, List.length_append, ← hnna.out, ← hnnb.out, hn]
  rw [← hn, ← hpsd] at hI0
  rw [← hpsd] at hps
  rw [← hn]
  have hn20 : n ≤ 20 := by omega
  have hnm : m1 ≤ n := by omega
  replace hI0 := Lib.hid hI0
  replace hn := Lib.hid hn
  replace hpsd := Lib.hid hpsd
  replace hpl := Lib.hid hpl
  clear hda hdb hoa hob hcells1 hcells2 hp1 hp2 ho1 hb4 hb3 hS hz3 hz4 hnna hnnb hlb t2
  go_loopg [12, 60] n (fun gg va i wr => ∃ j : Nat, gg + j = n ∧ i = .int .i64 (j : Int) ∧ Aside (∃ d L S s, LaI w wr B d G L S s (.slice aj n cj) va ps j ∧ (m1 ≤ j → m1 ≤ s.l.length)))
  case atStart => exact ⟨0, rfl, rfl, _, _, _, _, hI0.out, fun h => by omega⟩
  case round =>
    obtain ⟨j, hgj, rfl, hA⟩ := hrel
    obtain ⟨d, L, S, s, hI, hdur⟩ := hA.out
    clear hA hI0
    obtain ⟨aa', ma', ca', rfl, hma'⟩ := own_form hI.ra
    subst hma'
    by_cases hlt : ma' < n
    · have hlt' : ma' < ps.length := by rw [hpl.out]; exact hlt
      obtain ⟨p, hp⟩ : ∃ p, p = ps[ma'] := ⟨_, rfl⟩
      have hin := (hps.out p (by rw [hp]; exact List.getElem_mem hlt')).more hI.was
      obtain ⟨g, cg, eg, hg, hc⟩ := hI.at_ hlt' p hp
      rw [hpl.out] at eg
      cases eg
      obtain ⟨r, vp, vt, vx, vd⟩ := p
      obtain ⟨p1, q1, p2, q2, p3, q3, p4, q4, e1, e2, e3, e4, _⟩ := Rc.recAt_form hin.at_
      simp only at e1 e2 e3 e4
      subst e1 e2 e3 e4
      have hR : Rc.RecAt wr (.agg #[.int .i64 r.kind, .int .i64 r.tx, .int .i64 r.prev, .int .i64 r.next, .string (mk r.key), .bool r.had, .string (mk r.old.key), .string (mk r.old.val), .int .i64 r.old.blob, .int .i64 r.old.size, .slice p1 r.pages.length q1, .slice p2 r.pats.length q2, .slice p3 r.txs.length q3, .slice p4 r.dirty.length q4]) (.slice p1 r.pages.length q1) (.slice p2 r.pats.length q2) (.slice p3 r.txs.length q3) (.slice p4 r.dirty.length q4) r := hin.at_
      have l1 : r.pats.length ≤ 140737488351232 := hin.l1
      have l2 : r.txs.length ≤ 140737488351232 := hin.l2
      have l3 : r.pages.length ≤ 9223372036854775807 := hin.l3
      have l4 : ∀ t ∈ r.txs, t.pages.length ≤ 9223372036854775807 := hin.l4
      have c0 : wr.cell? ⟨g, ma' * 14, none⟩ = some (.int .i64 r.kind) := hc 0 _ (by omega) rfl
      have c1 : wr.cell? ⟨g, ma' * 14 + 1, none⟩ = some (.int .i64 r.tx) := hc 1 _ (by omega) rfl
      have c2 : wr.cell? ⟨g, ma' * 14 + 2, none⟩ = some (.int .i64 r.prev) := hc 2 _ (by omega) rfl
      have c3 : wr.cell? ⟨g, ma' * 14 + 3, none⟩ = some (.int .i64 r.next) := hc 3 _ (by omega) rfl
      have c4 : wr.cell? ⟨g, ma' * 14 + 4, none⟩ = some (.string (mk r.key)) := hc 4 _ (by omega) rfl
      have c5 : wr.cell? ⟨g, ma' * 14 + 5, none⟩ = some (.bool r.had) := hc 5 _ (by omega) rfl
      have c6 : wr.cell? ⟨g, ma' * 14 + 6, none⟩ = some (.string (mk r.old.key)) := hc 6 _ (by omega) rfl
      have c7 : wr.cell? ⟨g, ma' * 14 + 7, none⟩ = some (.string (mk r.old.val)) := hc 7 _ (by omega) rfl
      have c8 : wr.cell? ⟨g, ma' * 14 + 8, none⟩ = some (.int .i64 r.old.blob) := hc 8 _ (by omega) rfl
      have c9 : wr.cell? ⟨g, ma' * 14 + 9, none⟩ = some (.int .i64 r.old.size) := hc 9 _ (by omega) rfl
      have c10 : wr.cell? ⟨g, ma' * 14 + 10, none⟩ = some (.slice p1 r.pages.length q1) := hc 10 _ (by omega) rfl
      have c11 : wr.cell? ⟨g, ma' * 14 + 11, none⟩ = some (.slice p2 r.pats.length q2) := hc 11 _ (by omega) rfl
      have c12 : wr.cell? ⟨g, ma' * 14 + 12, none⟩ = some (.slice p3 r.txs.length q3) := hc 12 _ (by omega) rfl
      have c13 : wr.cell? ⟨g, ma' * 14 + 13, none⟩ = some (.slice p4 r.dirty.length q4) := hc 13 _ (by omega) rfl
      obtain ⟨oR, hoR⟩ : ∃ oR, oR = Obj.cells #[.int .i64 r.kind, .int .i64 r.tx, .int .i64 r.prev, .int .i64 r.next, .string (mk r.key), .bool r.had, .string (mk r.old.key), .string (mk r.old.val), .int .i64 r.old.blob, .int .i64 r.old.size, .slice p1 r.pages.length q1, .slice p2 r.pats.length q2, .slice p3 r.txs.length q3, .slice p4 r.dirty.length q4] 37 := ⟨_, rfl⟩
      obtain ⟨wX, hX⟩ : ∃ wX, wX = wr.alloc oR := ⟨_, rfl⟩
      have bX : Below wr.heap.size wr wX := by rw [hX]; exact (Below.refl _ _).alloc (Nat.le_refl _) oR
      have hzX : wr.heap.size < wX.heap.size := by rw [hX]; simp
      have hX9 : wX.heap[wr.heap.size]? = some (.cells #[.int .i64 r.kind, .int .i64 r.tx, .int .i64 r.prev, .int .i64 r.next, .string (mk r.key), .bool r.had, .string (mk r.old.key), .string (mk r.old.val), .int .i64 r.old.blob, .int .i64 r.old.size, .slice p1 r.pages.length q1, .slice p2 r.pats.length q2, .slice p3 r.txs.length q3, .slice p4 r.dirty.length q4] 37 (0, 0)) := by rw [hX, hoR]; exact heap_alloc_new wr _
      have hd : ∀ w' : World, w'.heap[wr.heap.size]? = some (.cells #[.int .i64 r.kind, .int .i64 r.tx, .int .i64 r.prev, .int .i64 r.next, .string (mk r.key), .bool r.had, .string (mk r.old.key), .string (mk r.old.val), .int .i64 r.old.blob, .int .i64 r.old.size, .slice p1 r.pages.length q1, .slice p2 r.pats.length q2, .slice p3 r.txs.length q3, .slice p4 r.dirty.length q4] 37 (0, 0)) → (w'.cell? ⟨wr.heap.size, 0, none⟩ = some (.int .i64 r.kind) ∧ w'.cell? ⟨wr.heap.size, 1, none⟩ = some (.int .i64 r.tx) ∧ w'.cell? ⟨wr.heap.size, 2, none⟩ = some (.int .i64 r.prev) ∧ w'.cell? ⟨wr.heap.size, 3, none⟩ = some (.int .i64 r.next) ∧ w'.cell? ⟨wr.heap.size, 4, none⟩ = some (.string (mk r.key)) ∧ w'.cell? ⟨wr.heap.size, 5, none⟩ = some (.bool r.had) ∧ w'.cell? ⟨wr.heap.size, 6, none⟩ = some (.string (mk r.old.key))) ∧ (w'.cell? ⟨wr.heap.size, 7, none⟩ = some (.string (mk r.old.val)) ∧ w'.cell? ⟨wr.heap.size, 8, none⟩ = some (.int .i64 r.old.blob) ∧ w'.cell? ⟨wr.heap.size, 9, none⟩ = some (.int .i64 r.old.size) ∧ w'.cell? ⟨wr.heap.size, 10, none⟩ = some (.slice p1 r.pages.length q1) ∧ w'.cell? ⟨wr.heap.size, 11, none⟩ = some (.slice p2 r.pats.length q2) ∧ w'.cell? ⟨wr.heap.size, 12, none⟩ = some (.slice p3 r.txs.length q3) ∧ w'.cell? ⟨wr.heap.size, 13, none⟩ = some (.slice p4 r.dirty.length q4)) := fun w' h => by obtain ⟨x, y, _⟩ := Rc.rec_cells h; exact ⟨x, y⟩
      have hmi : (0 : Int) ≤ ma' := by omega
      have hmn : (ma' : Int) < n := by omega
      have hmn2 : (ma' : Int) < (m1 : Int) + (nb : Int) := by have := hn.out; omega
      have hcone := cells_ones (w := wr) (ps := [⟨r, .slice p1 r.pages.length q1, .slice p2 r.pats.length q2, .slice p3 r.txs.length q3, .slice p4 r.dirty.length q4⟩]) (fun q hq => by rw [List.mem_singleton.1 hq]; exact hin)
      rw [rpcells_one] at hcone
      replace hoR := Lib.hid hoR
      replace hX := Lib.hid hX
      replace bX := Lib.hid bX
      replace hX9 := Lib.hid hX9
      replace hd := Lib.hid hd
      replace hp := Lib.hid hp
      replace hR := Lib.hid hR
      replace l4 := Lib.hid l4
      replace hcone := Lib.hid hcone
      replace hI := Lib.hid hI
      clear hin hc
      go_upto_region 11 with (fail)
      rw [← hoR.out, ← hX.out]
      clear c0 c1 c2 c3 c4 c5 c6 c7 c8 c9 c10 c11 c12 c13
      obtain ⟨⟨c0, c1, c2, c3, c4, c5, c6⟩, ⟨c7, c8, c9, c10, c11, c12, c13⟩⟩ := hd.out _ hX9.out
      have C1 := Rc.light_any _ _ _ _ _ r wX (hR.out.more bX.out) l1 l2
      replace C1 := Lib.hid C1
      go_wp2_with fail
      refine C1.out.mono ?_
      rintro e w3' ⟨b, rfl, _, b3⟩
      have hX3 := (Chg.of_below (S := fun _ => False) b3).heap hX9.out id
      have bX3 := bX.out.trans (b3.mono bX.out.size)
      have hzX3 := Nat.lt_of_lt_of_le hzX b3.size
      clear C1 c0 c1 c2 c3 c4 c5 c6 c7 c8 c9 c10 c11 c12 c13 b3
      cases b with
      | false =>
        have hfin := Lib.hid (hI.out.was.trans (bX3.mono hI.out.was.size))
        clear hX3 bX3
        go_wp2
        go_ret
        exact ⟨rfl, hfin.out⟩
      | true =>
        obtain ⟨⟨c0, c1, c2, c3, c4, c5, c6⟩, ⟨c7, c8, c9, c10, c11, c12, c13⟩⟩ := hd.out _ hX3
        have C2 := Rc.rright_any _ _ _ _ _ r w3' (hR.out.more bX3) l3 l4.out
        replace hX3 := Lib.hid hX3
        replace bX3 := Lib.hid bX3
        cases hok : Rc.recOk r with
        | false =>
          rw [hok] at C2
          replace C2 := Lib.hid C2
          clear hok
          go_wp2_with fail
          refine C2.out.mono ?_
          rintro e w4' ⟨rfl, b4⟩
          have bX4 := bX3.out.trans (b4.mono bX3.out.size)
          have hfin := Lib.hid (hI.out.was.trans (bX4.mono hI.out.was.size))
          clear b4 bX4 C2 c0 c1 c2 c3 c4 c5 c6 c7 c8 c9 c10 c11 c12 c13
          go_wp2
          go_ret
          exact ⟨rfl, hfin.out⟩
        | true =>
          rw [hok] at C2
          have hrok := (Rc.recOk_iff r).1 hok
          replace C2 := Lib.hid C2
          replace hrok := Lib.hid hrok
          clear hok
          go_wp2_with fail
          refine C2.out.mono ?_
          rintro e w4' ⟨rfl, b4⟩
          have hX4 := (Chg.of_below (S := fun _ => False) b4).heap hX3.out id
          have bX4 := bX3.out.trans (b4.mono bX3.out.size)
          have hzX4 := Nat.lt_of_lt_of_le hzX3 b4.size
          have hS4 := hI.out.box bX4 hzX4
          have hT4 := hT.more (hI.out.was.trans (bX4.mono hI.out.was.size))
          clear C2 c0 c1 c2 c3 c4 c5 c6 c7 c8 c9 c10 c11 c12 c13 b4
          obtain ⟨⟨c0, c1, c2, c3, c4, c5, c6⟩, ⟨c7, c8, c9, c10, c11, c12, c13⟩⟩ := hd.out _ hX4
          have hlL := hI.out.len
          have hse := hI.out.secs
          have hen : L.end_ ≤ 2000 := by have := hI.out.on.fit; omega
          have hst := hI.out.on.stream_le
          have hmi1 : IntKind.i64.wrap ((ma' : Int) + 1) = (ma' : Int) + 1 := IntWalk.i64_in _ (by omega)
          by_cases hfit : L.end_ + lcnt (L.wait ++ [Rc.enc r]) ≤ L.secs
          · have C3 := sAppend hS4 hT4 (hR.out.more bX4) (by omega) (by omega) (by omega) (by omega) (lapp_ok hrok.out hfit)
            rw [hlL] at C3
            have on2 := hI.out.on.app hrok.out hfit
            obtain ⟨L2, hL2⟩ : ∃ L2 : Lg, L2 = { L with l := L.l ++ [r], wait := L.wait ++ [Rc.enc r] } := ⟨_, rfl⟩
            rw [← hL2] at C3 on2
            have g1 : L2.first = L.first := by rw [hL2]
            have g2 : L2.secs = L.secs := by rw [hL2]
            have g3 : L2.epoch = L.epoch := by rw [hL2]
            have g4 : L2.l = L.l ++ [r] := by rw [hL2]
            replace C3 := Lib.hid C3
            replace on2 := Lib.hid on2
            replace hX4 := Lib.hid hX4
            replace bX4 := Lib.hid bX4
            replace g1 := Lib.hid g1
            replace g2 := Lib.hid g2
            replace g3 := Lib.hid g3
            replace g4 := Lib.hid g4
            replace hse := Lib.hid hse
            clear hS4 hT4 hL2 hst hfit hlL
            go_wp2_with fail
            refine C3.out.mono ?_
            rintro e w5' ⟨rfl, hS5⟩
            have hX5 := hS5.stay.heap hX4.out (fun e => e (.inr rfl))
            clear C3 c0 c1 c2 c3 c4 c5 c6 c7 c8 c9 c10 c11 c12 c13
            obtain ⟨⟨c0, c1, c2, c3, c4, c5, c6⟩, ⟨c7, c8, c9, c10, c11, c12, c13⟩⟩ := hd.out _ hX5
            have hraW : w5'.ownsRow w.heap.size 37 14 (.slice aa' ma' ca') ma' (rpcells (ps.take ma')) := hS5.stay.row ((Chg.of_below (S := fun _ => False) bX4.out).row hI.out.ra (fun _ _ => id)) (fun k e hn => hn (.inl (.inr e)))
            have hzw := Nat.le_trans hI.out.was.size (Nat.le_trans bX4.out.size hS5.stay.size)
            replace hS5 := Lib.hid hS5
            replace hraW := Lib.hid hraW
            clear hX5
            go_upto_region 19 with (at_builtin; refine wpList_append_rd rfl _ _ 45 rfl w.heap.size 37 ir Rc.zrec 14 200 Tryd.underlying45 hir hr0 hr1 hr2 rfl (by decide) (.slice aa' ma' ca') ma' (rpcells (ps.take ma')) rfl (hraW.out.alloc _) _ 1 (Rp.cells ⟨r, .slice p1 r.pages.length q1, .slice p2 r.pats.length q2, .slice p3 r.txs.length q3, .slice p4 r.dirty.length q4⟩) rfl rfl (RdAt.newRec ⟨r, .slice p1 r.pages.length q1, .slice p2 r.pats.length q2, .slice p3 r.txs.length q3, .slice p4 r.dirty.length q4⟩ 37 rfl 1) hcone.out (by unfold maxLen; omega) (by omega) (by simp; omega) ?_; intro v6 w6 hp6; obtain ⟨a6, m6, c6', rfl, hm6⟩ := own_form hp6.1; subst hm6; have hI6 := Lib.hid (hI.out.step hlt' bX4.out hp.out hS5.out hp6 on2.out g1.out g2.out g3.out g4.out); clear hp6)
            clear c0 c1 c2 c3 c4 c5 c6 c7 c8 c9 c10 c11 c12 c13 hraW
            by_cases hq : (ma' : Int) = (m1 : Int) - 1
            · have hl6 := hI6.out.len
              obtain ⟨d7, S7, s7, f1, on7, f3, f4, f5⟩ := hI6.out.on.flush_last hI6.out.stops (by rw [hI6.out.epoch]; exact hI6.out.last)
              have hlens := on7.lens
              have C7 := sFlush hI6.out.sys (by have := hI6.out.on.stream_le; omega) (by rw [hI6.out.first]; omega) (by have := hI6.out.on.fit; have := hI6.out.secs; omega) (by rw [hI6.out.epoch]; omega) (by rw [hI6.out.on.pend]; exact Nat.zero_le _) f1
              have hI7 := fun w7 (h : Sys (KB (.slice (some ⟨g, 0, none⟩) n cj) (.slice a6 (ma' + 1) c6')) w.heap.size w6 w7 B d7 G { L2 with wait := [], end_ := L2.end_ + lcnt L2.wait }) => hI6.out.flush h on7 rfl rfl rfl f3 f5 rfl f4
              have hdur7 : m1 ≤ ma' + 1 → m1 ≤ s7.l.length := fun h => by
                have e0 : ({ L2 with wait := [], end_ := L2.end_ + lcnt L2.wait } : Lg).wait.length = 0 := rfl
                have e1 : ({ L2 with wait := [], end_ := L2.end_ + lcnt L2.wait } : Lg).l.length = L2.l.length := rfl
                rw [e0, e1] at hlens
                omega
              replace C7 := Lib.hid C7
              replace hI7 := Lib.hid hI7
              replace hdur7 := Lib.hid hdur7
              clear on7 f1 f3 f4 f5 hlens hI6 hl6
              go_wp2_with fail
              refine C7.out.mono ?_
              rintro e w7 ⟨rfl, hS7⟩
              have hI8 := Lib.hid (hI7.out _ hS7)
              clear hS7 C7 hI7
              go_wp2
              go_roundg (n - (ma' + 1))
              case measure => omega
              case rel => exact ⟨ma' + 1, by omega, by go_num, _, _, _, _, hI8.out, hdur7.out⟩
            · have hdur7 : m1 ≤ ma' + 1 → m1 ≤ s.l.length := fun h => hdur (by omega)
              replace hdur7 := Lib.hid hdur7
              go_wp2
              go_roundg (n - (ma' + 1))
              case measure => omega
              case rel => exact ⟨ma' + 1, by omega, by go_num, _, _, _, _, hI6.out, hdur7.out⟩
          · have C3 := sAppend hS4 hT4 (hR.out.more bX4) (by omega) (by omega) (by omega) (by omega) (lapp_full hrok.out (by omega))
            replace C3 := Lib.hid C3
            replace hX4 := Lib.hid hX4
            replace bX4 := Lib.hid bX4
            clear hS4 hT4 hfit
            go_wp2_with fail
            refine C3.out.mono ?_
            rintro e w5' ⟨rfl, hS5⟩
            have hfin := Lib.hid ((hI.out.was.trans (bX4.out.mono hI.out.was.size)).trans hS5.was.1)
            clear hS5 C3 c0 c1 c2 c3 c4 c5 c6 c7 c8 c9 c10 c11 c12 c13
            go_wp2
            go_ret
            exact ⟨rfl, hfin.out⟩
    · obtain rfl : ma' = n := by omega
      have hmx : ¬ ((ma' : Int) < (m1 : Int) + (nb : Int)) := by have := hn.out; omega
      have hse := hI.secs
      have hfi := hI.first
      have hep := hI.epoch
      have hll := hI.len
      have hst := hI.on.stream_le
      have hft := hI.on.fit
      obtain ⟨L', d', x, f1, fL, m, r, k1, k2, k3, k4, k5, k6, k7, k8, k9⟩ := hI.on.stopped (by rw [hI.epoch]; exact hI.last) stop ks
      rw [hfi, hse] at k3
      rw [hep] at k5 k6
      rw [hI.size] at k9
      rw [hll] at k1 k7
      have hpe : (Dq.dstop d stop).pend.length ≤ 900000 := by
        unfold Dq.dstop
        split
        · rw [hI.on.pend]; exact Nat.zero_le _
        · show d.pend.length ≤ 900000; rw [hI.on.pend]; exact Nat.zero_le _
      have CS := sStop stop r2.2 r2.1 hI.sys
      have CF := fun w' (h : Sys (KB (.slice aj ma' cj) (.slice aa' ma' ca')) w.heap.size wr w' B (Dq.dstop d stop) G L) => sFlush h (by omega) (by omega) (by omega) (by omega) hpe f1
      have hm1 : m1 ≤ m := Nat.le_trans (hdur hnm) k2
      obtain ⟨d2, hd2⟩ : ∃ d2, d2 = (Dq.dcrash d' ks).1 := ⟨_, rfl⟩
      rw [← hd2] at k3 k8 k9
      have hxo : ∀ y ∈ L.l.take m, Rc.RecOk y := fun y hy => hI.on.ok _ (List.mem_of_mem_take hy)
      obtain ⟨L2, hL2⟩ : ∃ L2 : Lg, L2 = ⟨2, 2000, 6, L.l.take m, [], r.end_⟩ := ⟨_, rfl⟩
      have hL2l : L2.l.length = m := by rw [hL2]; show (L.l.take m).length = m; rw [List.length_take]; omega
      have e0 : ps.take ma' = ps := List.take_of_length_le (by rw [hpl.out]; exact Nat.le_refl _)
      have hL2e : L2.l = (ps.map Rp.r).take m := by rw [hL2]; show L.l.take m = _; rw [hI.all, e0]
      have hL2o : ∀ y ∈ L2.l, Rc.RecOk y := by rw [hL2]; exact hxo
      have CO := fun w' (h : Sys (KB (.slice aj ma' cj) (.slice aa' ma' ca')) w.heap.size wr w' B d2 G L') => (xOpen (epoch := 6) (hT.more (hI.was.trans h.was.1)) h.din (by omega) (by omega) (by rw [k9]; omega) (by omega) (by omega) k8 k3 (by omega) k4 hxo).mono (fun e w'' ⟨G2, T2, (he : e = _), (hl : LAt w'' B G2 T2 _), (ht : ∀ k, T2 k → w'.heap.size ≤ k), (hb : Below w'.heap.size w' w'')⟩ => (⟨G2, he, by rw [hL2]; exact h.anew hl ht hb⟩ : ∃ G2, e = Ending.returned (.tuple #[.pointer (some ⟨G2, 0, none⟩), .int .i64 0]) ∧ Sys (KB (.slice aj ma' cj) (.slice aa' ma' ca')) w.heap.size wr w'' B d2 G2 L2))
      have hra0 : wr.ownsRow w.heap.size 37 14 (.slice aa' ma' ca') ps.length (rpcells ps) := by
        have := hI.ra
        rw [e0] at this
        rw [hpl.out]
        exact this
      replace hra0 := Lib.hid hra0
      have hwas := Lib.hid hI.was
      have hlive := Lib.hid k8
      have hscan := Lib.hid k3
      have hrl := Lib.hid k4
      have hsz2 := Lib.hid k9
      have hm0 := Lib.hid k6
      have hL2o' := Lib.hid hxo
      have hpl2 : ps.length = ma' := hpl.out
      have hk5 : r.last ≤ 5 := k5
      replace hL2l := Lib.hid hL2l
      replace hL2e := Lib.hid hL2e
      replace hL2o := Lib.hid hL2o
      replace CS := Lib.hid CS
      replace CF := Lib.hid CF
      replace CO := Lib.hid CO
      replace hd2 := Lib.hid hd2
      replace k7 := Lib.hid k7
      replace hpl2 := hpl2
      clear e0 hI k2 k3 k4 k5 k6 k8 k9 hxo hL2 hse hfi hep hll hst hft f1 fL hdur
      by_cases hx0 : x = 0
      · subst hx0
        obtain ⟨mm, hmm⟩ : ∃ mm, mm = m := ⟨_, rfl⟩
        have hme := k7.out rfl
        clear hmm mm
        replace hme := Lib.hid hme
        go_wp2_with fail
        refine CS.out.mono ?_
        rintro e w6 ⟨rfl, hS6⟩
        have CF2 := Lib.hid (CF.out _ hS6)
        clear CS CF hS6
        go_wp2_with fail
        refine CF2.out.mono ?_
        rintro e w7 ⟨rfl, hS7⟩
        have CC := sCrash ak ck ks (hck.out.chg (Chg.of_below (S := fun _ => False) (hwas.out.trans hS7.was.1))) (by omega) hS7
        rw [← hd2.out] at CC
        replace CC := Lib.hid CC
        clear CF2 hS7
        go_wp2_with fail
        refine CC.out.mono ?_
        rintro e w8 ⟨rfl, hS8⟩
        have CO2 := Lib.hid (CO.out _ hS8)
        clear CC CO hS8
        go_wp2_with fail
        refine CO2.out.mono ?_
        rintro e w9 ⟨G2, rfl, hS9⟩
        have CL := sLast hS9
        rw [hL2l.out] at CL
        have hSQ := Lib.hid hS9
        replace CL := Lib.hid CL
        clear CO2 hS9
        have hmm1 : ¬ ((m : Int) < (m1 : Nat)) := by omega
        have hmm2 : ¬ (((ma' : Nat) : Int) < (m : Nat)) := by omega
        have hmd1 : decide (m < m1) = false := by rw [decide_eq_false_iff_not]; omega
        have hmd2 : decide (ma' < m) = false := by rw [decide_eq_false_iff_not]; omega
        have hmd3 : decide ((m : Int) < (m1 : Int)) = false := by rw [decide_eq_false_iff_not]; omega
        have hmd4 : decide ((ma' : Int) < (m : Int)) = false := by rw [decide_eq_false_iff_not]; omega
        go_wp2_with fail
        refine CL.out.mono ?_
        rintro e wZ ⟨rfl, hz⟩
        obtain rfl := hz.symm
        clear hz
        go_wp2_with fail
        refine CL.out.mono ?_
        rintro e wZ ⟨rfl, hz⟩
        obtain rfl := hz.symm
        clear hz
        have hmi : (m : Int) = ((ma' : Nat) : Int) := by rw [hme.out]
        go_wp2_with fail
        refine CL.out.mono ?_
        rintro e wZ ⟨rfl, hz⟩
        obtain rfl := hz.symm
        clear hz
        go_wp2
        clear hmi
        go_loopg [20] m (fun gg i wq => ∃ j : Nat, gg + j = m ∧ i = .int .i64 ((j : Int) + 1) ∧ Aside (Sys (KB (.slice aj ma' cj) (.slice aa' ma' ca')) w.heap.size wr wq B d2 G2 L2))
        case atStart => exact ⟨0, rfl, rfl, hSQ.out⟩
        case round =>
          rename World => wl
          obtain ⟨j, hgj2, rfl, hA⟩ := hrel
          have hSr := hA.out
          clear hA hSQ
          have CL := sLast hSr
          rw [hL2l.out] at CL
          replace CL := Lib.hid CL
          by_cases hj : j < m
          · have hjn : j < ps.length := by omega
            have hjL : j < L2.l.length := by rw [hL2l.out]; exact hj
            obtain ⟨p, hp⟩ : ∃ p, p = ps[j] := ⟨_, rfl⟩
            have hwl : Below w.heap.size w wl := hwas.out.trans hSr.was.1
            have hin := (hps.out p (by rw [hp]; exact List.getElem_mem hjn)).more hwl
            have hra := hSr.stay.row hra0.out (fun k e hn => hn (.inr e))
            obtain ⟨ga, cga, ega, hga, hca⟩ := row_cells hra hjn p hp
            rw [hpl2] at ega
            cases ega
            obtain ⟨r, vp, vt, vx, vd⟩ := p
            obtain ⟨p1, q1, p2, q2, p3, q3, p4, q4, z1, z2, z3, z4, _⟩ := Rc.recAt_form hin.at_
            simp only at z1 z2 z3 z4
            subst z1 z2 z3 z4
            have hR : Rc.RecAt wl (.agg #[.int .i64 r.kind, .int .i64 r.tx, .int .i64 r.prev, .int .i64 r.next, .string (mk r.key), .bool r.had, .string (mk r.old.key), .string (mk r.old.val), .int .i64 r.old.blob, .int .i64 r.old.size, .slice p1 r.pages.length q1, .slice p2 r.pats.length q2, .slice p3 r.txs.length q3, .slice p4 r.dirty.length q4]) (.slice p1 r.pages.length q1) (.slice p2 r.pats.length q2) (.slice p3 r.txs.length q3) (.slice p4 r.dirty.length q4) r := hin.at_
            have hrL : r = L2.l[j] := by
              have e1 := hL2e.out
              have e2 : r = (ps.map Rp.r)[j]'(by rw [List.length_map]; exact hjn) := by rw [List.getElem_map, ← hp]
              rw [e2]
              simp only [e1, List.getElem_take]
            have hok : Rc.RecOk r := by rw [hrL]; exact hL2o.out _ (List.getElem_mem hjL)
            have CA := sAt_yes hSr (hT.more hwl) j hjL (by rw [hL2l.out]; omega) r hrL hok
            have hj1 : (j : Int) + 1 ≤ m := by omega
            have hj2 : (0 : Int) ≤ j := by omega
            have hj3 : (j : Int) < (ma' : Nat) := by omega
            have hjw2 : IntKind.i64.wrap (j : Int) = (j : Int) := IntWalk.i64_in _ (by omega)
            have hjw : IntKind.i64.wrap ((j : Int) + 1 - 1) = (j : Int) := by rw [IntWalk.i64_in _ (by omega)]; omega
            have hje : (j : Int) + 1 - 1 = (j : Int) := by omega
            have c0 : wl.cell? ⟨ga, j * 14, none⟩ = some (.int .i64 r.kind) := hca 0 _ (by omega) rfl
            have c1 : wl.cell? ⟨ga, j * 14 + 1, none⟩ = some (.int .i64 r.tx) := hca 1 _ (by omega) rfl
            have c2 : wl.cell? ⟨ga, j * 14 + 2, none⟩ = some (.int .i64 r.prev) := hca 2 _ (by omega) rfl
            have c3 : wl.cell? ⟨ga, j * 14 + 3, none⟩ = some (.int .i64 r.next) := hca 3 _ (by omega) rfl
            have c4 : wl.cell? ⟨ga, j * 14 + 4, none⟩ = some (.string (mk r.key)) := hca 4 _ (by omega) rfl
            have c5 : wl.cell? ⟨ga, j * 14 + 5, none⟩ = some (.bool r.had) := hca 5 _ (by omega) rfl
            have c6 : wl.cell? ⟨ga, j * 14 + 6, none⟩ = some (.string (mk r.old.key)) := hca 6 _ (by omega) rfl
            have c7 : wl.cell? ⟨ga, j * 14 + 7, none⟩ = some (.string (mk r.old.val)) := hca 7 _ (by omega) rfl
            have c8 : wl.cell? ⟨ga, j * 14 + 8, none⟩ = some (.int .i64 r.old.blob) := hca 8 _ (by omega) rfl
            have c9 : wl.cell? ⟨ga, j * 14 + 9, none⟩ = some (.int .i64 r.old.size) := hca 9 _ (by omega) rfl
            have c10 : wl.cell? ⟨ga, j * 14 + 10, none⟩ = some (.slice p1 r.pages.length q1) := hca 10 _ (by omega) rfl
            have c11 : wl.cell? ⟨ga, j * 14 + 11, none⟩ = some (.slice p2 r.pats.length q2) := hca 11 _ (by omega) rfl
            have c12 : wl.cell? ⟨ga, j * 14 + 12, none⟩ = some (.slice p3 r.txs.length q3) := hca 12 _ (by omega) rfl
            have c13 : wl.cell? ⟨ga, j * 14 + 13, none⟩ = some (.slice p4 r.dirty.length q4) := hca 13 _ (by omega) rfl
            replace CA := Lib.hid CA
            replace hR := Lib.hid hR
            replace hok := Lib.hid hok
            replace hp := Lib.hid hp
            have hSr' := Lib.hid hSr
            have hkc : ∀ w', Below wl.heap.size wl w' → (w'.cell? ⟨ga, j * 14, none⟩ = some (.int .i64 r.kind) ∧ w'.cell? ⟨ga, j * 14 + 1, none⟩ = some (.int .i64 r.tx) ∧ w'.cell? ⟨ga, j * 14 + 2, none⟩ = some (.int .i64 r.prev) ∧ w'.cell? ⟨ga, j * 14 + 3, none⟩ = some (.int .i64 r.next) ∧ w'.cell? ⟨ga, j * 14 + 4, none⟩ = some (.string (mk r.key)) ∧ w'.cell? ⟨ga, j * 14 + 5, none⟩ = some (.bool r.had) ∧ w'.cell? ⟨ga, j * 14 + 6, none⟩ = some (.string (mk r.old.key)) ∧ w'.cell? ⟨ga, j * 14 + 7, none⟩ = some (.string (mk r.old.val)) ∧ w'.cell? ⟨ga, j * 14 + 8, none⟩ = some (.int .i64 r.old.blob) ∧ w'.cell? ⟨ga, j * 14 + 9, none⟩ = some (.int .i64 r.old.size) ∧ w'.cell? ⟨ga, j * 14 + 10, none⟩ = some (.slice p1 r.pages.length q1) ∧ w'.cell? ⟨ga, j * 14 + 11, none⟩ = some (.slice p2 r.pats.length q2) ∧ w'.cell? ⟨ga, j * 14 + 12, none⟩ = some (.slice p3 r.txs.length q3) ∧ w'.cell? ⟨ga, j * 14 + 13, none⟩ = some (.slice p4 r.dirty.length q4)) := fun w' hb => ⟨wl_cell hb c0, wl_cell hb c1, wl_cell hb c2, wl_cell hb c3, wl_cell hb c4, wl_cell hb c5, wl_cell hb c6, wl_cell hb c7, wl_cell hb c8, wl_cell hb c9, wl_cell hb c10, wl_cell hb c11, wl_cell hb c12, wl_cell hb c13⟩
            replace hkc := Lib.hid hkc
            clear hrL hjL hin hca hra hSr hwl c0 c1 c2 c3 c4 c5 c6 c7 c8 c9 c10 c11 c12 c13
            go_wp2_with fail
            refine CL.out.mono ?_
            rintro e w8 ⟨rfl, hz⟩
            subst hz
            clear CL
            go_wp2_with fail
            refine CA.out.mono ?_
            rintro e w9 ⟨a1, e1, a2, e2, a3, e3, a4, e4, rfl, hR9, b9⟩
            obtain ⟨oR, hoR⟩ : ∃ oR, oR = Obj.cells #[.int .i64 r.kind, .int .i64 r.tx, .int .i64 r.prev, .int .i64 r.next, .string (mk r.key), .bool r.had, .string (mk r.old.key), .string (mk r.old.val), .int .i64 r.old.blob, .int .i64 r.old.size, .slice a1 r.pages.length e1, .slice a2 r.pats.length e2, .slice a3 r.txs.length e3, .slice a4 r.dirty.length e4] 37 := ⟨_, rfl⟩
            obtain ⟨wX, hX⟩ : ∃ wX, wX = w9.alloc oR := ⟨_, rfl⟩
            have q9 : Below wl.heap.size wl wX := by rw [hX]; exact b9.alloc b9.size oR
            have hS9 := hSr'.out.more q9
            have h9 : wX.heap[w9.heap.size]? = some (.cells #[.int .i64 r.kind, .int .i64 r.tx, .int .i64 r.prev, .int .i64 r.next, .string (mk r.key), .bool r.had, .string (mk r.old.key), .string (mk r.old.val), .int .i64 r.old.blob, .int .i64 r.old.size, .slice a1 r.pages.length e1, .slice a2 r.pats.length e2, .slice a3 r.txs.length e3, .slice a4 r.dirty.length e4] 37 (0, 0)) := by rw [hX, hoR]; exact heap_alloc_new w9 _
            obtain ⟨⟨y0, y1, y2, y3, y4, y5, y6⟩, ⟨y7, y8, y9, y10, y11, y12, y13⟩, hlz⟩ := Rc.rec_cells h9
            obtain ⟨c0, c1, c2, c3, c4, c5, c6, c7, c8, c9, c10, c11, c12, c13⟩ := hkc.out _ q9
            have hR9' := hR9.more (w' := wX) (by rw [hX]; exact (Below.refl _ _).alloc (Nat.le_refl _) oR)
            have hmk : ∀ w', Below wX.heap.size wX w' → (fun w' => (w'.cell? ⟨w9.heap.size, 0, none⟩ = some (.int .i64 r.kind) ∧ w'.cell? ⟨w9.heap.size, 1, none⟩ = some (.int .i64 r.tx) ∧ w'.cell? ⟨w9.heap.size, 2, none⟩ = some (.int .i64 r.prev) ∧ w'.cell? ⟨w9.heap.size, 3, none⟩ = some (.int .i64 r.next) ∧ w'.cell? ⟨w9.heap.size, 4, none⟩ = some (.string (mk r.key)) ∧ w'.cell? ⟨w9.heap.size, 5, none⟩ = some (.bool r.had) ∧ w'.cell? ⟨w9.heap.size, 6, none⟩ = some (.string (mk r.old.key)) ∧ w'.cell? ⟨w9.heap.size, 7, none⟩ = some (.string (mk r.old.val)) ∧ w'.cell? ⟨w9.heap.size, 8, none⟩ = some (.int .i64 r.old.blob) ∧ w'.cell? ⟨w9.heap.size, 9, none⟩ = some (.int .i64 r.old.size) ∧ w'.cell? ⟨w9.heap.size, 10, none⟩ = some (.slice a1 r.pages.length e1) ∧ w'.cell? ⟨w9.heap.size, 11, none⟩ = some (.slice a2 r.pats.length e2) ∧ w'.cell? ⟨w9.heap.size, 12, none⟩ = some (.slice a3 r.txs.length e3) ∧ w'.cell? ⟨w9.heap.size, 13, none⟩ = some (.slice a4 r.dirty.length e4)) ∧ (w'.cell? ⟨ga, j * 14, none⟩ = some (.int .i64 r.kind) ∧ w'.cell? ⟨ga, j * 14 + 1, none⟩ = some (.int .i64 r.tx) ∧ w'.cell? ⟨ga, j * 14 + 2, none⟩ = some (.int .i64 r.prev) ∧ w'.cell? ⟨ga, j * 14 + 3, none⟩ = some (.int .i64 r.next) ∧ w'.cell? ⟨ga, j * 14 + 4, none⟩ = some (.string (mk r.key)) ∧ w'.cell? ⟨ga, j * 14 + 5, none⟩ = some (.bool r.had) ∧ w'.cell? ⟨ga, j * 14 + 6, none⟩ = some (.string (mk r.old.key)) ∧ w'.cell? ⟨ga, j * 14 + 7, none⟩ = some (.string (mk r.old.val)) ∧ w'.cell? ⟨ga, j * 14 + 8, none⟩ = some (.int .i64 r.old.blob) ∧ w'.cell? ⟨ga, j * 14 + 9, none⟩ = some (.int .i64 r.old.size) ∧ w'.cell? ⟨ga, j * 14 + 10, none⟩ = some (.slice p1 r.pages.length q1) ∧ w'.cell? ⟨ga, j * 14 + 11, none⟩ = some (.slice p2 r.pats.length q2) ∧ w'.cell? ⟨ga, j * 14 + 12, none⟩ = some (.slice p3 r.txs.length q3) ∧ w'.cell? ⟨ga, j * 14 + 13, none⟩ = some (.slice p4 r.dirty.length q4)) ∧ Hid (Below wX.heap.size wX w')) w' := fun w' hb => ⟨⟨wl_cell hb y0, wl_cell hb y1, wl_cell hb y2, wl_cell hb y3, wl_cell hb y4, wl_cell hb y5, wl_cell hb y6, wl_cell hb y7, wl_cell hb y8, wl_cell hb y9, wl_cell hb y10, wl_cell hb y11, wl_cell hb y12, wl_cell hb y13⟩, ⟨wl_cell hb c0, wl_cell hb c1, wl_cell hb c2, wl_cell hb c3, wl_cell hb c4, wl_cell hb c5, wl_cell hb c6, wl_cell hb c7, wl_cell hb c8, wl_cell hb c9, wl_cell hb c10, wl_cell hb c11, wl_cell hb c12, wl_cell hb c13⟩, Lib.hid hb⟩
            have C2 := fun w' (hs : (fun w' => (w'.cell? ⟨w9.heap.size, 0, none⟩ = some (.int .i64 r.kind) ∧ w'.cell? ⟨w9.heap.size, 1, none⟩ = some (.int .i64 r.tx) ∧ w'.cell? ⟨w9.heap.size, 2, none⟩ = some (.int .i64 r.prev) ∧ w'.cell? ⟨w9.heap.size, 3, none⟩ = some (.int .i64 r.next) ∧ w'.cell? ⟨w9.heap.size, 4, none⟩ = some (.string (mk r.key)) ∧ w'.cell? ⟨w9.heap.size, 5, none⟩ = some (.bool r.had) ∧ w'.cell? ⟨w9.heap.size, 6, none⟩ = some (.string (mk r.old.key)) ∧ w'.cell? ⟨w9.heap.size, 7, none⟩ = some (.string (mk r.old.val)) ∧ w'.cell? ⟨w9.heap.size, 8, none⟩ = some (.int .i64 r.old.blob) ∧ w'.cell? ⟨w9.heap.size, 9, none⟩ = some (.int .i64 r.old.size) ∧ w'.cell? ⟨w9.heap.size, 10, none⟩ = some (.slice a1 r.pages.length e1) ∧ w'.cell? ⟨w9.heap.size, 11, none⟩ = some (.slice a2 r.pats.length e2) ∧ w'.cell? ⟨w9.heap.size, 12, none⟩ = some (.slice a3 r.txs.length e3) ∧ w'.cell? ⟨w9.heap.size, 13, none⟩ = some (.slice a4 r.dirty.length e4)) ∧ (w'.cell? ⟨ga, j * 14, none⟩ = some (.int .i64 r.kind) ∧ w'.cell? ⟨ga, j * 14 + 1, none⟩ = some (.int .i64 r.tx) ∧ w'.cell? ⟨ga, j * 14 + 2, none⟩ = some (.int .i64 r.prev) ∧ w'.cell? ⟨ga, j * 14 + 3, none⟩ = some (.int .i64 r.next) ∧ w'.cell? ⟨ga, j * 14 + 4, none⟩ = some (.string (mk r.key)) ∧ w'.cell? ⟨ga, j * 14 + 5, none⟩ = some (.bool r.had) ∧ w'.cell? ⟨ga, j * 14 + 6, none⟩ = some (.string (mk r.old.key)) ∧ w'.cell? ⟨ga, j * 14 + 7, none⟩ = some (.string (mk r.old.val)) ∧ w'.cell? ⟨ga, j * 14 + 8, none⟩ = some (.int .i64 r.old.blob) ∧ w'.cell? ⟨ga, j * 14 + 9, none⟩ = some (.int .i64 r.old.size) ∧ w'.cell? ⟨ga, j * 14 + 10, none⟩ = some (.slice p1 r.pages.length q1) ∧ w'.cell? ⟨ga, j * 14 + 11, none⟩ = some (.slice p2 r.pats.length q2) ∧ w'.cell? ⟨ga, j * 14 + 12, none⟩ = some (.slice p3 r.txs.length q3) ∧ w'.cell? ⟨ga, j * 14 + 13, none⟩ = some (.slice p4 r.dirty.length q4)) ∧ Hid (Below wX.heap.size wX w')) w') => (same_self _ _ _ _ _ _ _ _ _ _ r w' (hR9'.more hs.2.2.out) (hR.out.more (q9.trans (hs.2.2.out.mono q9.size))) hok.out).mono (fun e w'' ⟨(he : _), (hb : Below w'.heap.size w' w'')⟩ => And.intro he (hmk w'' (hs.2.2.out.trans (hb.mono hs.2.2.out.size))))
            replace C2 := Lib.hid C2
            replace hmk := Lib.hid hmk
            replace hS9 := Lib.hid hS9
            replace hoR := Lib.hid hoR
            replace hX := Lib.hid hX
            clear CA hR9 hR9' b9 q9 h9 hR hkc hlz y0 y1 y2 y3 y4 y5 y6 y7 y8 y9 y10 y11 y12 y13 c0 c1 c2 c3 c4 c5 c6 c7 c8 c9 c10 c11 c12 c13
            go_upto_region 32 with (fail)
            rw [← hoR.out, ← hX.out]
            go_region_held3 (fun w' => (w'.cell? ⟨w9.heap.size, 0, none⟩ = some (.int .i64 r.kind) ∧ w'.cell? ⟨w9.heap.size, 1, none⟩ = some (.int .i64 r.tx) ∧ w'.cell? ⟨w9.heap.size, 2, none⟩ = some (.int .i64 r.prev) ∧ w'.cell? ⟨w9.heap.size, 3, none⟩ = some (.int .i64 r.next) ∧ w'.cell? ⟨w9.heap.size, 4, none⟩ = some (.string (mk r.key)) ∧ w'.cell? ⟨w9.heap.size, 5, none⟩ = some (.bool r.had) ∧ w'.cell? ⟨w9.heap.size, 6, none⟩ = some (.string (mk r.old.key)) ∧ w'.cell? ⟨w9.heap.size, 7, none⟩ = some (.string (mk r.old.val)) ∧ w'.cell? ⟨w9.heap.size, 8, none⟩ = some (.int .i64 r.old.blob) ∧ w'.cell? ⟨w9.heap.size, 9, none⟩ = some (.int .i64 r.old.size) ∧ w'.cell? ⟨w9.heap.size, 10, none⟩ = some (.slice a1 r.pages.length e1) ∧ w'.cell? ⟨w9.heap.size, 11, none⟩ = some (.slice a2 r.pats.length e2) ∧ w'.cell? ⟨w9.heap.size, 12, none⟩ = some (.slice a3 r.txs.length e3) ∧ w'.cell? ⟨w9.heap.size, 13, none⟩ = some (.slice a4 r.dirty.length e4)) ∧ (w'.cell? ⟨ga, j * 14, none⟩ = some (.int .i64 r.kind) ∧ w'.cell? ⟨ga, j * 14 + 1, none⟩ = some (.int .i64 r.tx) ∧ w'.cell? ⟨ga, j * 14 + 2, none⟩ = some (.int .i64 r.prev) ∧ w'.cell? ⟨ga, j * 14 + 3, none⟩ = some (.int .i64 r.next) ∧ w'.cell? ⟨ga, j * 14 + 4, none⟩ = some (.string (mk r.key)) ∧ w'.cell? ⟨ga, j * 14 + 5, none⟩ = some (.bool r.had) ∧ w'.cell? ⟨ga, j * 14 + 6, none⟩ = some (.string (mk r.old.key)) ∧ w'.cell? ⟨ga, j * 14 + 7, none⟩ = some (.string (mk r.old.val)) ∧ w'.cell? ⟨ga, j * 14 + 8, none⟩ = some (.int .i64 r.old.blob) ∧ w'.cell? ⟨ga, j * 14 + 9, none⟩ = some (.int .i64 r.old.size) ∧ w'.cell? ⟨ga, j * 14 + 10, none⟩ = some (.slice p1 r.pages.length q1) ∧ w'.cell? ⟨ga, j * 14 + 11, none⟩ = some (.slice p2 r.pats.length q2) ∧ w'.cell? ⟨ga, j * 14 + 12, none⟩ = some (.slice p3 r.txs.length q3) ∧ w'.cell? ⟨ga, j * 14 + 13, none⟩ = some (.slice p4 r.dirty.length q4)) ∧ Hid (Below wX.heap.size wX w')) (first | assumption | exact hmk.out _ (Below.refl _ _).drew | exact hmk.out _ (Below.refl _ _)) (first | (go_at_call 22; refine (C2.out _ (by assumption)).mono ?_; rintro e wq ⟨rfl, hq⟩))
            all_goals
              have hSn := Lib.hid (hS9.out.more hq.2.2.out)
              clear hq hS9 C2 hmk
              go_wp2
              go_roundg (m - (j + 1))
              case measure => omega
              case rel => exact ⟨j + 1, by omega, by rw [show ((j : Int) + 1 + 1) = ((j + 1 : Nat) : Int) + 1 by omega], hSn.out⟩
          · obtain rfl : j = m := by omega
            have hjf : ¬ ((j : Int) + 1 ≤ j) := by omega
            have hT9 := hT.more (hwas.out.trans hSr.was.1)
            rcases hm0.out with hz0 | hz0
            · have hz1 : (j : Int) = 0 := by omega
              by_cases hl5 : r.last < 5
              · have CO := (xOpen (epoch := 5) hT9 hSr.din (by omega) (by omega) (by rw [hsz2.out]; omega) (by omega) (by omega) hlive.out hscan.out hl5 hrl.out hL2o'.out).mono (fun e w' ⟨G3, T3, (he : e = _), _, _, (hb : Below wl.heap.size wl w')⟩ => (⟨_, _, he, hb⟩ : ∃ pv ev, e = Ending.returned (.tuple #[pv, ev]) ∧ Below wl.heap.size wl w'))
                have hS9 := hSr
                replace CO := Lib.hid CO
                replace hS9 := Lib.hid hS9
                go_wp2_with fail
                refine CL.out.mono ?_
                rintro e w8 ⟨rfl, hz⟩
                obtain rfl := hz.symm
                clear hz
                go_wp2_with fail
                refine CO.out.mono ?_
                rintro e w9 ⟨pv, ev, rfl, b9⟩
                have CM := sLast (hS9.out.more b9)
                rw [hL2l.out] at CM
                have hfin := Lib.hid (hwas.out.trans (hS9.out.more b9).was.1)
                replace CM := Lib.hid CM
                clear CO b9 hS9 CL
                go_wp2_with fail
                refine CM.out.mono ?_
                rintro e w10 ⟨rfl, hz⟩
                obtain rfl := hz.symm
                clear hz CM
                go_wp2
                go_ret
                exact ⟨rfl, hfin.out⟩
              · have CO := (xOpen_form (epoch := 5) hSr.din (by omega) (by omega) (by rw [hsz2.out]; omega) (by omega) (by omega) hlive.out hscan.out (by omega)).mono (fun e w' ⟨(he : e = _), (hb : Below wl.heap.size wl w')⟩ => (⟨_, _, he, hb⟩ : ∃ pv ev, e = Ending.returned (.tuple #[pv, ev]) ∧ Below wl.heap.size wl w'))
                have hS9 := hSr
                replace CO := Lib.hid CO
                replace hS9 := Lib.hid hS9
                go_wp2_with fail
                refine CL.out.mono ?_
                rintro e w8 ⟨rfl, hz⟩
                obtain rfl := hz.symm
                clear hz
                go_wp2_with fail
                refine CO.out.mono ?_
                rintro e w9 ⟨pv, ev, rfl, b9⟩
                have CM := sLast (hS9.out.more b9)
                rw [hL2l.out] at CM
                have hfin := Lib.hid (hwas.out.trans (hS9.out.more b9).was.1)
                replace CM := Lib.hid CM
                clear CO b9 hS9 CL
                go_wp2_with fail
                refine CM.out.mono ?_
                rintro e w10 ⟨rfl, hz⟩
                obtain rfl := hz.symm
                clear hz CM
                go_wp2
                go_ret
                exact ⟨rfl, hfin.out⟩
            · have CO := xOpen_form (epoch := 5) hSr.din (by omega) (by omega) (by rw [hsz2.out]; omega) (by omega) (by omega) hlive.out hscan.out (by omega)
              replace CO := Lib.hid CO
              replace hSr := Lib.hid hSr
              clear hT9
              go_wp2_with fail
              refine CL.out.mono ?_
              rintro e w8 ⟨rfl, hz⟩
              obtain rfl := hz.symm
              clear hz
              go_wp2_with fail
              refine CO.out.mono ?_
              rintro e w9 ⟨rfl, b9⟩
              have CM := sLast (hSr.out.more b9)
              rw [hL2l.out] at CM
              have hfin := Lib.hid (hwas.out.trans (hSr.out.more b9).was.1)
              replace CM := Lib.hid CM
              clear CO b9 hSr CL
              go_wp2_with fail
              refine CM.out.mono ?_
              rintro e w10 ⟨rfl, hz⟩
              obtain rfl := hz.symm
              clear hz CM
              go_wp2
              all_goals
                go_ret
                exact ⟨rfl, hfin.out⟩
      · have hxb : (x == 0) = false := by rw [beq_eq_false_iff_ne]; exact hx0
        go_wp2_with fail
        refine CS.out.mono ?_
        rintro e w6 ⟨rfl, hS6⟩
        have CF2 := Lib.hid (CF.out _ hS6)
        clear CS CF hS6
        go_wp2_with fail
        refine CF2.out.mono ?_
        rintro e w7 ⟨rfl, hS7⟩
        have CC := sCrash ak ck ks (hck.out.chg (Chg.of_below (S := fun _ => False) (hwas.out.trans hS7.was.1))) (by omega) hS7
        rw [← hd2.out] at CC
        replace CC := Lib.hid CC
        clear CF2 hS7
        go_wp2_with fail
        refine CC.out.mono ?_
        rintro e w8 ⟨rfl, hS8⟩
        have CO2 := Lib.hid (CO.out _ hS8)
        clear CC CO hS8
        go_wp2_with fail
        refine CO2.out.mono ?_
        rintro e w9 ⟨G2, rfl, hS9⟩
        have CL := sLast hS9
        rw [hL2l.out] at CL
        have hSQ := Lib.hid hS9
        replace CL := Lib.hid CL
        clear CO2 hS9
        have hmm1 : ¬ ((m : Int) < (m1 : Nat)) := by omega
        have hmm2 : ¬ (((ma' : Nat) : Int) < (m : Nat)) := by omega
        have hmd1 : decide (m < m1) = false := by rw [decide_eq_false_iff_not]; omega
        have hmd2 : decide (ma' < m) = false := by rw [decide_eq_false_iff_not]; omega
        have hmd3 : decide ((m : Int) < (m1 : Int)) = false := by rw [decide_eq_false_iff_not]; omega
        have hmd4 : decide ((ma' : Int) < (m : Int)) = false := by rw [decide_eq_false_iff_not]; omega
        go_wp2_with fail
        refine CL.out.mono ?_
        rintro e wZ ⟨rfl, hz⟩
        obtain rfl := hz.symm
        clear hz
        go_wp2_with fail
        refine CL.out.mono ?_
        rintro e wZ ⟨rfl, hz⟩
        obtain rfl := hz.symm
        clear hz
        go_wp2
        go_loopg [20] m (fun gg i wq => ∃ j : Nat, gg + j = m ∧ i = .int .i64 ((j : Int) + 1) ∧ Aside (Sys (KB (.slice aj ma' cj) (.slice aa' ma' ca')) w.heap.size wr wq B d2 G2 L2))
        case atStart => exact ⟨0, rfl, rfl, hSQ.out⟩
        case round =>
          rename World => wl
          obtain ⟨j, hgj2, rfl, hA⟩ := hrel
          have hSr := hA.out
          clear hA hSQ
          have CL := sLast hSr
          rw [hL2l.out] at CL
          replace CL := Lib.hid CL
          by_cases hj : j < m
          · have hjn : j < ps.length := by omega
            have hjL : j < L2.l.length := by rw [hL2l.out]; exact hj
            obtain ⟨p, hp⟩ : ∃ p, p = ps[j] := ⟨_, rfl⟩
            have hwl : Below w.heap.size w wl := hwas.out.trans hSr.was.1
            have hin := (hps.out p (by rw [hp]; exact List.getElem_mem hjn)).more hwl
            have hra := hSr.stay.row hra0.out (fun k e hn => hn (.inr e))
            obtain ⟨ga, cga, ega, hga, hca⟩ := row_cells hra hjn p hp
            rw [hpl2] at ega
            cases ega
            obtain ⟨r, vp, vt, vx, vd⟩ := p
            obtain ⟨p1, q1, p2, q2, p3, q3, p4, q4, z1, z2, z3, z4, _⟩ := Rc.recAt_form hin.at_
            simp only at z1 z2 z3 z4
            subst z1 z2 z3 z4
            have hR : Rc.RecAt wl (.agg #[.int .i64 r.kind, .int .i64 r.tx, .int .i64 r.prev, .int .i64 r.next, .string (mk r.key), .bool r.had, .string (mk r.old.key), .string (mk r.old.val), .int .i64 r.old.blob, .int .i64 r.old.size, .slice p1 r.pages.length q1, .slice p2 r.pats.length q2, .slice p3 r.txs.length q3, .slice p4 r.dirty.length q4]) (.slice p1 r.pages.length q1) (.slice p2 r.pats.length q2) (.slice p3 r.txs.length q3) (.slice p4 r.dirty.length q4) r := hin.at_
            have hrL : r = L2.l[j] := by
              have e1 := hL2e.out
              have e2 : r = (ps.map Rp.r)[j]'(by rw [List.length_map]; exact hjn) := by rw [List.getElem_map, ← hp]
              rw [e2]
              simp only [e1, List.getElem_take]
            have hok : Rc.RecOk r := by rw [hrL]; exact hL2o.out _ (List.getElem_mem hjL)
            have CA := sAt_yes hSr (hT.more hwl) j hjL (by rw [hL2l.out]; omega) r hrL hok
            have hj1 : (j : Int) + 1 ≤ m := by omega
            have hj2 : (0 : Int) ≤ j := by omega
            have hj3 : (j : Int) < (ma' : Nat) := by omega
            have hjw2 : IntKind.i64.wrap (j : Int) = (j : Int) := IntWalk.i64_in _ (by omega)
            have hjw : IntKind.i64.wrap ((j : Int) + 1 - 1) = (j : Int) := by rw [IntWalk.i64_in _ (by omega)]; omega
            have hje : (j : Int) + 1 - 1 = (j : Int) := by omega
            have c0 : wl.cell? ⟨ga, j * 14, none⟩ = some (.int .i64 r.kind) := hca 0 _ (by omega) rfl
            have c1 : wl.cell? ⟨ga, j * 14 + 1, none⟩ = some (.int .i64 r.tx) := hca 1 _ (by omega) rfl
            have c2 : wl.cell? ⟨ga, j * 14 + 2, none⟩ = some (.int .i64 r.prev) := hca 2 _ (by omega) rfl
            have c3 : wl.cell? ⟨ga, j * 14 + 3, none⟩ = some (.int .i64 r.next) := hca 3 _ (by omega) rfl
            have c4 : wl.cell? ⟨ga, j * 14 + 4, none⟩ = some (.string (mk r.key)) := hca 4 _ (by omega) rfl
            have c5 : wl.cell? ⟨ga, j * 14 + 5, none⟩ = some (.bool r.had) := hca 5 _ (by omega) rfl
            have c6 : wl.cell? ⟨ga, j * 14 + 6, none⟩ = some (.string (mk r.old.key)) := hca 6 _ (by omega) rfl
            have c7 : wl.cell? ⟨ga, j * 14 + 7, none⟩ = some (.string (mk r.old.val)) := hca 7 _ (by omega) rfl
            have c8 : wl.cell? ⟨ga, j * 14 + 8, none⟩ = some (.int .i64 r.old.blob) := hca 8 _ (by omega) rfl
            have c9 : wl.cell? ⟨ga, j * 14 + 9, none⟩ = some (.int .i64 r.old.size) := hca 9 _ (by omega) rfl
            have c10 : wl.cell? ⟨ga, j * 14 + 10, none⟩ = some (.slice p1 r.pages.length q1) := hca 10 _ (by omega) rfl
            have c11 : wl.cell? ⟨ga, j * 14 + 11, none⟩ = some (.slice p2 r.pats.length q2) := hca 11 _ (by omega) rfl
            have c12 : wl.cell? ⟨ga, j * 14 + 12, none⟩ = some (.slice p3 r.txs.length q3) := hca 12 _ (by omega) rfl
            have c13 : wl.cell? ⟨ga, j * 14 + 13, none⟩ = some (.slice p4 r.dirty.length q4) := hca 13 _ (by omega) rfl
            replace CA := Lib.hid CA
            replace hR := Lib.hid hR
            replace hok := Lib.hid hok
            replace hp := Lib.hid hp
            have hSr' := Lib.hid hSr
            have hkc : ∀ w', Below wl.heap.size wl w' → (w'.cell? ⟨ga, j * 14, none⟩ = some (.int .i64 r.kind) ∧ w'.cell? ⟨ga, j * 14 + 1, none⟩ = some (.int .i64 r.tx) ∧ w'.cell? ⟨ga, j * 14 + 2, none⟩ = some (.int .i64 r.prev) ∧ w'.cell? ⟨ga, j * 14 + 3, none⟩ = some (.int .i64 r.next) ∧ w'.cell? ⟨ga, j * 14 + 4, none⟩ = some (.string (mk r.key)) ∧ w'.cell? ⟨ga, j * 14 + 5, none⟩ = some (.bool r.had) ∧ w'.cell? ⟨ga, j * 14 + 6, none⟩ = some (.string (mk r.old.key)) ∧ w'.cell? ⟨ga, j * 14 + 7, none⟩ = some (.string (mk r.old.val)) ∧ w'.cell? ⟨ga, j * 14 + 8, none⟩ = some (.int .i64 r.old.blob) ∧ w'.cell? ⟨ga, j * 14 + 9, none⟩ = some (.int .i64 r.old.size) ∧ w'.cell? ⟨ga, j * 14 + 10, none⟩ = some (.slice p1 r.pages.length q1) ∧ w'.cell? ⟨ga, j * 14 + 11, none⟩ = some (.slice p2 r.pats.length q2) ∧ w'.cell? ⟨ga, j * 14 + 12, none⟩ = some (.slice p3 r.txs.length q3) ∧ w'.cell? ⟨ga, j * 14 + 13, none⟩ = some (.slice p4 r.dirty.length q4)) := fun w' hb => ⟨wl_cell hb c0, wl_cell hb c1, wl_cell hb c2, wl_cell hb c3, wl_cell hb c4, wl_cell hb c5, wl_cell hb c6, wl_cell hb c7, wl_cell hb c8, wl_cell hb c9, wl_cell hb c10, wl_cell hb c11, wl_cell hb c12, wl_cell hb c13⟩
            replace hkc := Lib.hid hkc
            clear hrL hjL hin hca hra hSr hwl c0 c1 c2 c3 c4 c5 c6 c7 c8 c9 c10 c11 c12 c13
            go_wp2_with fail
            refine CL.out.mono ?_
            rintro e w8 ⟨rfl, hz⟩
            subst hz
            clear CL
            go_wp2_with fail
            refine CA.out.mono ?_
            rintro e w9 ⟨a1, e1, a2, e2, a3, e3, a4, e4, rfl, hR9, b9⟩
            obtain ⟨oR, hoR⟩ : ∃ oR, oR = Obj.cells #[.int .i64 r.kind, .int .i64 r.tx, .int .i64 r.prev, .int .i64 r.next, .string (mk r.key), .bool r.had, .string (mk r.old.key), .string (mk r.old.val), .int .i64 r.old.blob, .int .i64 r.old.size, .slice a1 r.pages.length e1, .slice a2 r.pats.length e2, .slice a3 r.txs.length e3, .slice a4 r.dirty.length e4] 37 := ⟨_, rfl⟩
            obtain ⟨wX, hX⟩ : ∃ wX, wX = w9.alloc oR := ⟨_, rfl⟩
            have q9 : Below wl.heap.size wl wX := by rw [hX]; exact b9.alloc b9.size oR
            have hS9 := hSr'.out.more q9
            have h9 : wX.heap[w9.heap.size]? = some (.cells #[.int .i64 r.kind, .int .i64 r.tx, .int .i64 r.prev, .int .i64 r.next, .string (mk r.key), .bool r.had, .string (mk r.old.key), .string (mk r.old.val), .int .i64 r.old.blob, .int .i64 r.old.size, .slice a1 r.pages.length e1, .slice a2 r.pats.length e2, .slice a3 r.txs.length e3, .slice a4 r.dirty.length e4] 37 (0, 0)) := by rw [hX, hoR]; exact heap_alloc_new w9 _
            obtain ⟨⟨y0, y1, y2, y3, y4, y5, y6⟩, ⟨y7, y8, y9, y10, y11, y12, y13⟩, hlz⟩ := Rc.rec_cells h9
            obtain ⟨c0, c1, c2, c3, c4, c5, c6, c7, c8, c9, c10, c11, c12, c13⟩ := hkc.out _ q9
            have hR9' := hR9.more (w' := wX) (by rw [hX]; exact (Below.refl _ _).alloc (Nat.le_refl _) oR)
            have hmk : ∀ w', Below wX.heap.size wX w' → (fun w' => (w'.cell? ⟨w9.heap.size, 0, none⟩ = some (.int .i64 r.kind) ∧ w'.cell? ⟨w9.heap.size, 1, none⟩ = some (.int .i64 r.tx) ∧ w'.cell? ⟨w9.heap.size, 2, none⟩ = some (.int .i64 r.prev) ∧ w'.cell? ⟨w9.heap.size, 3, none⟩ = some (.int .i64 r.next) ∧ w'.cell? ⟨w9.heap.size, 4, none⟩ = some (.string (mk r.key)) ∧ w'.cell? ⟨w9.heap.size, 5, none⟩ = some (.bool r.had) ∧ w'.cell? ⟨w9.heap.size, 6, none⟩ = some (.string (mk r.old.key)) ∧ w'.cell? ⟨w9.heap.size, 7, none⟩ = some (.string (mk r.old.val)) ∧ w'.cell? ⟨w9.heap.size, 8, none⟩ = some (.int .i64 r.old.blob) ∧ w'.cell? ⟨w9.heap.size, 9, none⟩ = some (.int .i64 r.old.size) ∧ w'.cell? ⟨w9.heap.size, 10, none⟩ = some (.slice a1 r.pages.length e1) ∧ w'.cell? ⟨w9.heap.size, 11, none⟩ = some (.slice a2 r.pats.length e2) ∧ w'.cell? ⟨w9.heap.size, 12, none⟩ = some (.slice a3 r.txs.length e3) ∧ w'.cell? ⟨w9.heap.size, 13, none⟩ = some (.slice a4 r.dirty.length e4)) ∧ (w'.cell? ⟨ga, j * 14, none⟩ = some (.int .i64 r.kind) ∧ w'.cell? ⟨ga, j * 14 + 1, none⟩ = some (.int .i64 r.tx) ∧ w'.cell? ⟨ga, j * 14 + 2, none⟩ = some (.int .i64 r.prev) ∧ w'.cell? ⟨ga, j * 14 + 3, none⟩ = some (.int .i64 r.next) ∧ w'.cell? ⟨ga, j * 14 + 4, none⟩ = some (.string (mk r.key)) ∧ w'.cell? ⟨ga, j * 14 + 5, none⟩ = some (.bool r.had) ∧ w'.cell? ⟨ga, j * 14 + 6, none⟩ = some (.string (mk r.old.key)) ∧ w'.cell? ⟨ga, j * 14 + 7, none⟩ = some (.string (mk r.old.val)) ∧ w'.cell? ⟨ga, j * 14 + 8, none⟩ = some (.int .i64 r.old.blob) ∧ w'.cell? ⟨ga, j * 14 + 9, none⟩ = some (.int .i64 r.old.size) ∧ w'.cell? ⟨ga, j * 14 + 10, none⟩ = some (.slice p1 r.pages.length q1) ∧ w'.cell? ⟨ga, j * 14 + 11, none⟩ = some (.slice p2 r.pats.length q2) ∧ w'.cell? ⟨ga, j * 14 + 12, none⟩ = some (.slice p3 r.txs.length q3) ∧ w'.cell? ⟨ga, j * 14 + 13, none⟩ = some (.slice p4 r.dirty.length q4)) ∧ Hid (Below wX.heap.size wX w')) w' := fun w' hb => ⟨⟨wl_cell hb y0, wl_cell hb y1, wl_cell hb y2, wl_cell hb y3, wl_cell hb y4, wl_cell hb y5, wl_cell hb y6, wl_cell hb y7, wl_cell hb y8, wl_cell hb y9, wl_cell hb y10, wl_cell hb y11, wl_cell hb y12, wl_cell hb y13⟩, ⟨wl_cell hb c0, wl_cell hb c1, wl_cell hb c2, wl_cell hb c3, wl_cell hb c4, wl_cell hb c5, wl_cell hb c6, wl_cell hb c7, wl_cell hb c8, wl_cell hb c9, wl_cell hb c10, wl_cell hb c11, wl_cell hb c12, wl_cell hb c13⟩, Lib.hid hb⟩
            have C2 := fun w' (hs : (fun w' => (w'.cell? ⟨w9.heap.size, 0, none⟩ = some (.int .i64 r.kind) ∧ w'.cell? ⟨w9.heap.size, 1, none⟩ = some (.int .i64 r.tx) ∧ w'.cell? ⟨w9.heap.size, 2, none⟩ = some (.int .i64 r.prev) ∧ w'.cell? ⟨w9.heap.size, 3, none⟩ = some (.int .i64 r.next) ∧ w'.cell? ⟨w9.heap.size, 4, none⟩ = some (.string (mk r.key)) ∧ w'.cell? ⟨w9.heap.size, 5, none⟩ = some (.bool r.had) ∧ w'.cell? ⟨w9.heap.size, 6, none⟩ = some (.string (mk r.old.key)) ∧ w'.cell? ⟨w9.heap.size, 7, none⟩ = some (.string (mk r.old.val)) ∧ w'.cell? ⟨w9.heap.size, 8, none⟩ = some (.int .i64 r.old.blob) ∧ w'.cell? ⟨w9.heap.size, 9, none⟩ = some (.int .i64 r.old.size) ∧ w'.cell? ⟨w9.heap.size, 10, none⟩ = some (.slice a1 r.pages.length e1) ∧ w'.cell? ⟨w9.heap.size, 11, none⟩ = some (.slice a2 r.pats.length e2) ∧ w'.cell? ⟨w9.heap.size, 12, none⟩ = some (.slice a3 r.txs.length e3) ∧ w'.cell? ⟨w9.heap.size, 13, none⟩ = some (.slice a4 r.dirty.length e4)) ∧ (w'.cell? ⟨ga, j * 14, none⟩ = some (.int .i64 r.kind) ∧ w'.cell? ⟨ga, j * 14 + 1, none⟩ = some (.int .i64 r.tx) ∧ w'.cell? ⟨ga, j * 14 + 2, none⟩ = some (.int .i64 r.prev) ∧ w'.cell? ⟨ga, j * 14 + 3, none⟩ = some (.int .i64 r.next) ∧ w'.cell? ⟨ga, j * 14 + 4, none⟩ = some (.string (mk r.key)) ∧ w'.cell? ⟨ga, j * 14 + 5, none⟩ = some (.bool r.had) ∧ w'.cell? ⟨ga, j * 14 + 6, none⟩ = some (.string (mk r.old.key)) ∧ w'.cell? ⟨ga, j * 14 + 7, none⟩ = some (.string (mk r.old.val)) ∧ w'.cell? ⟨ga, j * 14 + 8, none⟩ = some (.int .i64 r.old.blob) ∧ w'.cell? ⟨ga, j * 14 + 9, none⟩ = some (.int .i64 r.old.size) ∧ w'.cell? ⟨ga, j * 14 + 10, none⟩ = some (.slice p1 r.pages.length q1) ∧ w'.cell? ⟨ga, j * 14 + 11, none⟩ = some (.slice p2 r.pats.length q2) ∧ w'.cell? ⟨ga, j * 14 + 12, none⟩ = some (.slice p3 r.txs.length q3) ∧ w'.cell? ⟨ga, j * 14 + 13, none⟩ = some (.slice p4 r.dirty.length q4)) ∧ Hid (Below wX.heap.size wX w')) w') => (same_self _ _ _ _ _ _ _ _ _ _ r w' (hR9'.more hs.2.2.out) (hR.out.more (q9.trans (hs.2.2.out.mono q9.size))) hok.out).mono (fun e w'' ⟨(he : _), (hb : Below w'.heap.size w' w'')⟩ => And.intro he (hmk w'' (hs.2.2.out.trans (hb.mono hs.2.2.out.size))))
            replace C2 := Lib.hid C2
            replace hmk := Lib.hid hmk
            replace hS9 := Lib.hid hS9
            replace hoR := Lib.hid hoR
            replace hX := Lib.hid hX
            clear CA hR9 hR9' b9 q9 h9 hR hkc hlz y0 y1 y2 y3 y4 y5 y6 y7 y8 y9 y10 y11 y12 y13 c0 c1 c2 c3 c4 c5 c6 c7 c8 c9 c10 c11 c12 c13
            go_upto_region 32 with (fail)
            rw [← hoR.out, ← hX.out]
            go_region_held3 (fun w' => (w'.cell? ⟨w9.heap.size, 0, none⟩ = some (.int .i64 r.kind) ∧ w'.cell? ⟨w9.heap.size, 1, none⟩ = some (.int .i64 r.tx) ∧ w'.cell? ⟨w9.heap.size, 2, none⟩ = some (.int .i64 r.prev) ∧ w'.cell? ⟨w9.heap.size, 3, none⟩ = some (.int .i64 r.next) ∧ w'.cell? ⟨w9.heap.size, 4, none⟩ = some (.string (mk r.key)) ∧ w'.cell? ⟨w9.heap.size, 5, none⟩ = some (.bool r.had) ∧ w'.cell? ⟨w9.heap.size, 6, none⟩ = some (.string (mk r.old.key)) ∧ w'.cell? ⟨w9.heap.size, 7, none⟩ = some (.string (mk r.old.val)) ∧ w'.cell? ⟨w9.heap.size, 8, none⟩ = some (.int .i64 r.old.blob) ∧ w'.cell? ⟨w9.heap.size, 9, none⟩ = some (.int .i64 r.old.size) ∧ w'.cell? ⟨w9.heap.size, 10, none⟩ = some (.slice a1 r.pages.length e1) ∧ w'.cell? ⟨w9.heap.size, 11, none⟩ = some (.slice a2 r.pats.length e2) ∧ w'.cell? ⟨w9.heap.size, 12, none⟩ = some (.slice a3 r.txs.length e3) ∧ w'.cell? ⟨w9.heap.size, 13, none⟩ = some (.slice a4 r.dirty.length e4)) ∧ (w'.cell? ⟨ga, j * 14, none⟩ = some (.int .i64 r.kind) ∧ w'.cell? ⟨ga, j * 14 + 1, none⟩ = some (.int .i64 r.tx) ∧ w'.cell? ⟨ga, j * 14 + 2, none⟩ = some (.int .i64 r.prev) ∧ w'.cell? ⟨ga, j * 14 + 3, none⟩ = some (.int .i64 r.next) ∧ w'.cell? ⟨ga, j * 14 + 4, none⟩ = some (.string (mk r.key)) ∧ w'.cell? ⟨ga, j * 14 + 5, none⟩ = some (.bool r.had) ∧ w'.cell? ⟨ga, j * 14 + 6, none⟩ = some (.string (mk r.old.key)) ∧ w'.cell? ⟨ga, j * 14 + 7, none⟩ = some (.string (mk r.old.val)) ∧ w'.cell? ⟨ga, j * 14 + 8, none⟩ = some (.int .i64 r.old.blob) ∧ w'.cell? ⟨ga, j * 14 + 9, none⟩ = some (.int .i64 r.old.size) ∧ w'.cell? ⟨ga, j * 14 + 10, none⟩ = some (.slice p1 r.pages.length q1) ∧ w'.cell? ⟨ga, j * 14 + 11, none⟩ = some (.slice p2 r.pats.length q2) ∧ w'.cell? ⟨ga, j * 14 + 12, none⟩ = some (.slice p3 r.txs.length q3) ∧ w'.cell? ⟨ga, j * 14 + 13, none⟩ = some (.slice p4 r.dirty.length q4)) ∧ Hid (Below wX.heap.size wX w')) (first | assumption | exact hmk.out _ (Below.refl _ _).drew | exact hmk.out _ (Below.refl _ _)) (first | (go_at_call 22; refine (C2.out _ (by assumption)).mono ?_; rintro e wq ⟨rfl, hq⟩))
            all_goals
              have hSn := Lib.hid (hS9.out.more hq.2.2.out)
              clear hq hS9 C2 hmk
              go_wp2
              go_roundg (m - (j + 1))
              case measure => omega
              case rel => exact ⟨j + 1, by omega, by rw [show ((j : Int) + 1 + 1) = ((j + 1 : Nat) : Int) + 1 by omega], hSn.out⟩
          · obtain rfl : j = m := by omega
            have hjf : ¬ ((j : Int) + 1 ≤ j) := by omega
            have hT9 := hT.more (hwas.out.trans hSr.was.1)
            rcases hm0.out with hz0 | hz0
            · have hz1 : (j : Int) = 0 := by omega
              by_cases hl5 : r.last < 5
              · have CO := (xOpen (epoch := 5) hT9 hSr.din (by omega) (by omega) (by rw [hsz2.out]; omega) (by omega) (by omega) hlive.out hscan.out hl5 hrl.out hL2o'.out).mono (fun e w' ⟨G3, T3, (he : e = _), _, _, (hb : Below wl.heap.size wl w')⟩ => (⟨_, _, he, hb⟩ : ∃ pv ev, e = Ending.returned (.tuple #[pv, ev]) ∧ Below wl.heap.size wl w'))
                have hS9 := hSr
                replace CO := Lib.hid CO
                replace hS9 := Lib.hid hS9
                go_wp2_with fail
                refine CL.out.mono ?_
                rintro e w8 ⟨rfl, hz⟩
                obtain rfl := hz.symm
                clear hz
                go_wp2_with fail
                refine CO.out.mono ?_
                rintro e w9 ⟨pv, ev, rfl, b9⟩
                have CM := sLast (hS9.out.more b9)
                rw [hL2l.out] at CM
                have hfin := Lib.hid (hwas.out.trans (hS9.out.more b9).was.1)
                replace CM := Lib.hid CM
                clear CO b9 hS9 CL
                go_wp2_with fail
                refine CM.out.mono ?_
                rintro e w10 ⟨rfl, hz⟩
                obtain rfl := hz.symm
                clear hz CM
                go_wp2
                go_ret
                exact ⟨rfl, hfin.out⟩
              · have CO := (xOpen_form (epoch := 5) hSr.din (by omega) (by omega) (by rw [hsz2.out]; omega) (by omega) (by omega) hlive.out hscan.out (by omega)).mono (fun e w' ⟨(he : e = _), (hb : Below wl.heap.size wl w')⟩ => (⟨_, _, he, hb⟩ : ∃ pv ev, e = Ending.returned (.tuple #[pv, ev]) ∧ Below wl.heap.size wl w'))
                have hS9 := hSr
                replace CO := Lib.hid CO
                replace hS9 := Lib.hid hS9
                go_wp2_with fail
                refine CL.out.mono ?_
                rintro e w8 ⟨rfl, hz⟩
                obtain rfl := hz.symm
                clear hz
                go_wp2_with fail
                refine CO.out.mono ?_
                rintro e w9 ⟨pv, ev, rfl, b9⟩
                have CM := sLast (hS9.out.more b9)
                rw [hL2l.out] at CM
                have hfin := Lib.hid (hwas.out.trans (hS9.out.more b9).was.1)
                replace CM := Lib.hid CM
                clear CO b9 hS9 CL
                go_wp2_with fail
                refine CM.out.mono ?_
                rintro e w10 ⟨rfl, hz⟩
                obtain rfl := hz.symm
                clear hz CM
                go_wp2
                go_ret
                exact ⟨rfl, hfin.out⟩
            · have CO := xOpen_form (epoch := 5) hSr.din (by omega) (by omega) (by rw [hsz2.out]; omega) (by omega) (by omega) hlive.out hscan.out (by omega)
              replace CO := Lib.hid CO
              replace hSr := Lib.hid hSr
              clear hT9
              go_wp2_with fail
              refine CL.out.mono ?_
              rintro e w8 ⟨rfl, hz⟩
              obtain rfl := hz.symm
              clear hz
              go_wp2_with fail
              refine CO.out.mono ?_
              rintro e w9 ⟨rfl, b9⟩
              have CM := sLast (hSr.out.more b9)
              rw [hL2l.out] at CM
              have hfin := Lib.hid (hwas.out.trans (hSr.out.more b9).was.1)
              replace CM := Lib.hid CM
              clear CO b9 hSr CL
              go_wp2_with fail
              refine CM.out.mono ?_
              rintro e w10 ⟨rfl, hz⟩
              obtain rfl := hz.symm
              clear hz CM
              go_wp2
              all_goals
                go_ret
                exact ⟨rfl, hfin.out⟩
end Go.Proofs.YtofejnhnnmnfpaaDoor
