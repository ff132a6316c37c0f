/- Flush of a log. No condition. -/
import Derived.Test.YtofejnhnnmnfpaaDoorWPs
import Derived.Deep.Cut
import Derived.Deep.RegionLaw
import Derived.Deep.RegionHeld3
import Derived.StillTailTactics
import Derived.Deep.LoopGhost
namespace Go.Proofs.YtofejnhnnmnfpaaDoor
set_option maxRecDepth 100000
open Go.RowKit

theorem row_low {w : World} {base base' : Nat} {e : TypeId} {size : Nat} {v : Value} {n : Nat} {xs : List Value} (h : w.ownsRow base e size v n xs) (hb : base' ≤ base) : w.ownsRow base' e size v n xs := by
  refine ⟨h.1, ?_⟩
  rcases h.2 with hh | ⟨g, cap, cur, hv, hg, rest⟩
  · exact .inl hh
  · exact .inr ⟨g, cap, cur, hv, Nat.le_trans hb hg, rest⟩
theorem dwrite_pend (d : Dq.Dk) (n : Int) (s : List UInt8) : (Dq.dwrite d n s).1.pend.length ≤ d.pend.length + 1 := by
  unfold Dq.dwrite
  split
  · exact Nat.le_succ _
  split
  · exact Nat.le_succ _
  split
  · exact Nat.le_succ _
  split
  · exact Nat.le_succ _
  · simp
/-- In Flush: the disk, the log, the batch. -/
def FlS (K : Nat → Prop) (H : Nat) (w0 w : World) (B : Nat) (d : Dq.Dk) (G : Nat) (T : Nat → Prop) (L : Lg) (vl vw : Value) (ps : List Rp) (ab : Option Addr) (bt : List (List UInt8)) : Prop :=
  ∃ rs rp m, Dq.DAt w B rs rp m d ∧ LX w B G T L vl vw ps ∧ (∀ k, Dq.DS B rs rp m k → Hi K H k ∧ ¬ T k ∧ ∀ p, ab = some p → p.block ≠ k) ∧ (∀ k, T k → Hi K H k) ∧ Bel K H w0 w ∧ H ≤ w.heap.size ∧ Fr.TAt w ab bt ∧ (∀ p, ab = some p → p.block < w.heap.size)
section
variable {K : Nat → Prop} {H B G : Nat} {w0 w w' : World} {d d' : Dq.Dk} {T : Nat → Prop} {L : Lg} {vl vw : Value} {ps : List Rp} {ab : Option Addr} {bt : List (List UInt8)}
theorem FlS.post {rs rp : Option Nat} {m : Nat} (hl : LX w B G T L vl vw ps) (h1 : ∀ k, Dq.DS B rs rp m k → Hi K H k ∧ ¬ T k ∧ ∀ p, ab = some p → p.block ≠ k) (h2 : ∀ k, T k → Hi K H k) (h3 : Bel K H w0 w) (h4 : H ≤ w.heap.size) (h5 : Fr.TAt w ab bt) (h6 : ∀ p, ab = some p → p.block < w.heap.size) (hp : Dq.DPost w w' B rs rp m d') : FlS K H w0 w' B d' G T L vl vw ps ab bt := by
  obtain ⟨rp', ha, hc, hr⟩ := hp
  refine ⟨rs, rp', m, ha, hl.kept hc (fun k hk e => (h1 k e).2.1 hk), ?_, h2, h3.step h4 hc (fun k _ e => (h1 k e).1), Nat.le_trans h4 hc.size, fun j hj => ?_, fun p hp => Nat.lt_of_lt_of_le (h6 p hp) hc.size⟩
  · intro k e
    rcases e with e | e | e | e
    · exact h1 k (.inl e)
    · exact h1 k (.inr (.inl e))
    · rcases hr with hr | hr
      · exact h1 k (.inr (.inr (.inl (hr ▸ e))))
      · have hk := hr k e
        exact ⟨h3.new h4 hk, fun e' => by have := hl.lt k e'; omega, fun p hp e' => by have := h6 p hp; omega⟩
    · exact h1 k (.inr (.inr (.inr e)))
  · obtain ⟨b, o, e, hcell⟩ := h5 j hj
    exact ⟨b, o, e, (World.cell?_of_block (w := w) (hc.block _ (World.block_lt_of_cell? w _ hcell) (fun e' => (h1 _ e').2.2 _ e rfl))).trans hcell⟩
theorem FlS.write (n : Int) (s : List UInt8) {x : Int} (q : Dq.dwrite d n s = (d', x)) (hmany : d.pend.length < 1000000) (h : FlS K H w0 w B d G T L vl vw ps ab bt) :
    Calls Tryd.prog 35 #[.pointer (some ⟨B, 0, none⟩), .int .i64 n, .string (mk s)] w fun e w' => e = .returned (.int .i64 x) ∧ FlS K H w0 w' B d' G T L vl vw ps ab bt := by
  obtain ⟨rs, rp, m, hd, hl, h1, h2, h3, h4, h5, h6⟩ := h
  refine (Dq.kWrite n s hd hmany).mono ?_
  rintro e w' ⟨he, hp⟩
  rw [q] at he hp
  exact ⟨he, FlS.post hl h1 h2 h3 h4 h5 h6 hp⟩
theorem FlS.sync {x : Int} (q : Dq.dsync d = (d', x)) (h : FlS K H w0 w B d G T L vl vw ps ab bt) :
    Calls Tryd.prog 36 #[.pointer (some ⟨B, 0, none⟩)] w fun e w' => e = .returned (.int .i64 x) ∧ FlS K H w0 w' B d' G T L vl vw ps ab bt := by
  obtain ⟨rs, rp, m, hd, hl, h1, h2, h3, h4, h5, h6⟩ := h
  refine (Dq.kSync hd).mono ?_
  rintro e w' ⟨he, hp⟩
  rw [q] at he hp
  exact ⟨he, FlS.post hl h1 h2 h3 h4 h5 h6 hp⟩
theorem FlS.sys (h : FlS K H w0 w B d G T L vl vw ps ab bt) : Sys K H w0 w B d G L := by
  obtain ⟨rs, rp, m, hd, hl, h1, h2, h3, h4, _⟩ := h
  exact ⟨rs, rp, m, T, hd, ⟨vl, vw, ps, hl⟩, fun k hk => ⟨(h1 k hk).1, (h1 k hk).2.1⟩, h2, h3, h4⟩
/-- Behind the last stores. -/
theorem FlS.done {n : Nat} {v : Value} (hv : v = .slice none 0 0) (h : FlS K H w0 w B d G T L vl vw ps ab bt) : Sys K H w0 ((w.setCell ⟨G, 6, none⟩ (.int .i64 (n : Int))).setCell ⟨G, 5, none⟩ v) B d G { L with wait := [], end_ := n } := by
  subst hv
  obtain ⟨rs, rp, m, hd, hl, h1, h2, h3, h4, _⟩ := h
  obtain ⟨H1, c1⟩ := hl.setEnd n
  obtain ⟨H2, c2⟩ := H1.setWait (v' := .slice none 0 0) (wl := []) (World.ownsRow_nil _ _ _ _) (fun k e => by simp [Value.ownBlock] at e)
  have hc : Chg T w ((w.setCell ⟨G, 6, none⟩ (.int .i64 (n : Int))).setCell ⟨G, 5, none⟩ (.slice none 0 0)) := (c1.mono (fun k _ e => e ▸ hl.inG)).trans c2 (fun k _ e => e ▸ hl.inG)
  exact sys_log hd (fun k hk => ⟨(h1 k hk).1, (h1 k hk).2.1⟩) h2 h3 h4 hc ⟨_, _, _, H2⟩ (fun k hk => hk.imp id (fun e => by simp [Value.ownBlock] at e))
theorem FlS.cells (h : FlS K H w0 w B d G T L vl vw ps ab bt) : w.cell? ⟨G, 0, none⟩ = some (.pointer (some ⟨B, 0, none⟩)) ∧ w.cell? ⟨G, 1, none⟩ = some (.int .i64 (L.first : Int)) ∧ w.cell? ⟨G, 6, none⟩ = some (.int .i64 (L.end_ : Int)) ∧ (∀ i, w.frozen? ⟨G, i, none⟩ = false) ∧ G < w.heap.size := by
  obtain ⟨rs, rp, m, hd, hl, _⟩ := h
  obtain ⟨_, _, _, _, _, _, c0, c1, _, _, _, _, c6, hf, hG⟩ := hl.cells
  exact ⟨c0, c1, c6, hf, hG⟩
theorem FlS.drew (h : FlS K H w0 w B d G T L vl vw ps ab bt) : FlS K H w0 w.drew B d G T L vl vw ps ab bt := by
  obtain ⟨rs, rp, m, hd, hl, h1, h2, h3, h4, h5, h6⟩ := h
  exact ⟨rs, rp, m, hd.keep (Chg.refl (fun _ => False) w).drew (fun _ _ h => h), hl.kept (Chg.refl (fun _ => False) w).drew (fun _ _ h => h), h1, h2, h3.step h4 (Chg.refl (fun _ => False) w).drew (fun _ _ h => h.elim), h4, h5, h6⟩
end
/-- What is read next to Batch. -/
theorem fb_more {w0 w w' : World} {G epoch end_ : Nat} {aw : Option Addr} {cw : Nat} {wl : List (List UInt8)}
    (h : w.cell? ⟨G, 3, none⟩ = some (.int .i64 (epoch : Int)) ∧ w.cell? ⟨G, 6, none⟩ = some (.int .i64 (end_ : Int)) ∧ w.cell? ⟨G, 5, none⟩ = some (.slice aw wl.length cw) ∧ Hid (Fr.TAt w aw wl ∧ Below w0.heap.size w0 w)) (hb : Below w.heap.size w w') :
    w'.cell? ⟨G, 3, none⟩ = some (.int .i64 (epoch : Int)) ∧ w'.cell? ⟨G, 6, none⟩ = some (.int .i64 (end_ : Int)) ∧ w'.cell? ⟨G, 5, none⟩ = some (.slice aw wl.length cw) ∧ Hid (Fr.TAt w' aw wl ∧ Below w0.heap.size w0 w') :=
  ⟨wl_cell hb h.1, wl_cell hb h.2.1, wl_cell hb h.2.2.1, Lib.hid ⟨h.2.2.2.out.1.more hb, h.2.2.2.out.2.trans (hb.mono h.2.2.2.out.2.size)⟩⟩
theorem fb_batch {w0 w : World} {G epoch end_ : Nat} {aw : Option Addr} {cw : Nat} {wl bt : List (List UInt8)} {bo : Bool} (hbt : bt = Fr.batD epoch end_ wl) (hbo : bo = Fr.batOk epoch end_ wl) (hl : (Fr.stream wl).length ≤ 400000)
    (h : w.cell? ⟨G, 3, none⟩ = some (.int .i64 (epoch : Int)) ∧ w.cell? ⟨G, 6, none⟩ = some (.int .i64 (end_ : Int)) ∧ w.cell? ⟨G, 5, none⟩ = some (.slice aw wl.length cw) ∧ Hid (Fr.TAt w aw wl ∧ Below w0.heap.size w0 w)) :
    Calls Tryd.prog 34 #[.int .i64 (epoch : Int), .int .i64 (end_ : Int), .slice aw wl.length cw] w fun e w' => ∃ a c, e = .returned (.tuple #[.slice a bt.length c, .bool bo]) ∧ (w'.cell? ⟨G, 3, none⟩ = some (.int .i64 (epoch : Int)) ∧ w'.cell? ⟨G, 6, none⟩ = some (.int .i64 (end_ : Int)) ∧ w'.cell? ⟨G, 5, none⟩ = some (.slice aw wl.length cw) ∧ Hid (Fr.TAt w' aw wl ∧ Below w0.heap.size w0 w')) ∧ Hid (w'.ownsRow w0.heap.size 9 1 (.slice a bt.length c) bt.length (Fr.scells bt)) := by
  subst hbt hbo
  refine (Fr.batch_all (epoch : Int) (end_ : Int) aw cw wl w (by omega) h.2.2.2.out.1).mono ?_
  rintro e w' ⟨v, he, ho, hb⟩
  obtain ⟨a, m, c, rfl, hm⟩ := own_form ho
  subst hm
  exact ⟨a, c, he, fb_more h hb, Lib.hid (row_low ho h.2.2.2.out.2.size)⟩
/-- What Flush leaves. -/
def FluP (K : Nat → Prop) (H : Nat) (w0 : World) (B : Nat) (d' : Dq.Dk) (G : Nat) (L' : Lg) (x : Int) (e : Ending) (w' : World) : Prop := e = .returned (.int .i64 x) ∧ Sys K H w0 w' B d' G L'
section
variable {K : Nat → Prop} {H B G : Nat} {w0 w w' : World} {d d' : Dq.Dk} {L L' : Lg}
set_option maxHeartbeats 6400000 in
theorem sFlush (h : Sys K H w0 w B d G L) (h1 : (Fr.stream L.wait).length ≤ 400000) (h2 : L.first ≤ 100000) (h3 : L.end_ ≤ 4000) (_ : L.epoch ≤ 4294967295) (h5 : d.pend.length ≤ 900000) {x : Int} (q : lflush L d = (L', d', x)) :
    Calls Tryd.prog 15 #[.pointer (some ⟨G, 0, none⟩)] w (FluP K H w0 B d' G L' x) := by
  obtain ⟨rs, rp, m, T, hd, ⟨vl, vw, ps, hl⟩, g1, g2, g3, g4⟩ := h
  obtain ⟨al, cl, aw, cw, e1, e2, c0, c1, c2, c3, c4, c5, c6, hf, hG⟩ := hl.cells
  by_cases hw : L.wait = []
  · rw [lflush, if_pos hw] at q
    cases q
    have hz : L.wait.length = 0 := by rw [hw]; rfl
    rw [hz] at c5
    have hS : Sys K H w0 w B d G L := ⟨rs, rp, m, T, hd, ⟨vl, vw, ps, hl⟩, g1, g2, g3, g4⟩
    replace hS := Lib.hid hS
    clear e1 e2 hl hd g1 g2 g3 hw hz
    go_enter Tryd.func15, Tryd.ntmps15
    go_wp2
    go_ret
    exact ⟨rfl, hS.out⟩
  · have hzl : ((L.wait.length : Int) == 0) = false := by
      have : L.wait.length ≠ 0 := fun e => hw (List.length_eq_zero_iff.1 e)
      simp; omega
    have hta : Fr.TAt w aw L.wait := by
      obtain ⟨a, c, e, ht⟩ := Fr.TAt.own hl.rw_
      rw [e2] at e
      cases e
      exact ht
    obtain ⟨bt, hbt⟩ : ∃ bt, bt = Fr.batD L.epoch L.end_ L.wait := ⟨_, rfl⟩
    obtain ⟨bo, hbo⟩ : ∃ bo, bo = Fr.batOk L.epoch L.end_ L.wait := ⟨_, rfl⟩
    rw [lflush, if_neg hw, ← hbo, ← hbt] at q
    have S0 : w.cell? ⟨G, 3, none⟩ = some (.int .i64 (L.epoch : Int)) ∧ w.cell? ⟨G, 6, none⟩ = some (.int .i64 (L.end_ : Int)) ∧ w.cell? ⟨G, 5, none⟩ = some (.slice aw L.wait.length cw) ∧ Hid (Fr.TAt w aw L.wait ∧ Below w.heap.size w w) := ⟨c3, c6, c5, Lib.hid ⟨hta, Below.refl _ _⟩⟩
    replace q := Lib.hid q
    replace hl := Lib.hid hl
    replace hbt := Lib.hid hbt
    replace hbo := Lib.hid hbo
    clear hta e1 e2 c4 hw
    go_enter Tryd.func15, Tryd.ntmps15
    go_upto_region 5 with (fail)
    go_cut [3, 4] from 10 (fun s3 s4 wr => ∃ av cv, s3 = .slice av bt.length cv ∧ s4 = .bool bo ∧ Aside (wr.ownsRow w.heap.size 9 1 (.slice av bt.length cv) bt.length (Fr.scells bt) ∧ Below w.heap.size w wr))
    case first =>
      go_wp2_with fail
      go_region_held3 (fun w' => w'.cell? ⟨G, 3, none⟩ = some (.int .i64 (L.epoch : Int)) ∧ w'.cell? ⟨G, 6, none⟩ = some (.int .i64 (L.end_ : Int)) ∧ w'.cell? ⟨G, 5, none⟩ = some (.slice aw L.wait.length cw) ∧ Hid (Fr.TAt w' aw L.wait ∧ Below w.heap.size w w')) (first | assumption | exact fb_more S0 (Below.refl _ _).drew) (first | (go_at_call 34; refine (fb_batch hbt.out hbo.out h1 (by assumption)).mono ?_; rintro e wq ⟨av, cv, rfl, hq, hrow⟩))
      all_goals
        have hb := Lib.hid hq.2.2.2.out.2
        go_wp2
        go_meet
        case rel => exact ⟨av, cv, rfl, rfl, hrow.out, hb.out⟩
    case rest =>
      rename World => wA
      obtain ⟨av, cv, rfl, rfl, hA⟩ := hcut
      obtain ⟨hrow, hbA⟩ := hA.out
      clear hA S0 hbo
      have c0' := wl_cell hbA c0
      have hFl : FlS K H w0 wA B d G T L vl vw ps av bt := by
        have hc : Chg (fun _ => False) w wA := Chg.of_below hbA
        refine ⟨rs, rp, m, hd.keep hc (fun _ _ h => h), hl.out.more hbA, fun k hk => ⟨(g1 k hk).1, (g1 k hk).2, fun p hp e => ?_⟩, g2, g3.step g4 hc (fun _ _ h => h.elim), Nat.le_trans g4 hbA.size, ?_, fun p hp => ?_⟩
        · have := DAt_lt hd k hk
          have := (hrow.lt p.block (by rw [hp]; rfl)).1
          omega
        · obtain ⟨a', c', e', ht⟩ := Fr.TAt.own hrow
          simp only [Value.slice.injEq] at e'
          obtain ⟨rfl, _, rfl⟩ := e'
          exact ht
        · exact (hrow.lt p.block (by rw [hp]; rfl)).2
      have hbtl : bt.length ≤ 10000 := by
        rw [hbt.out]
        unfold Fr.batD
        split
        · rw [Fr.secs_len]; omega
        · simp
      have hmf : ∀ (fn : Fn) (first cap : Array Value) (w : World), (Instr.makeFunc fn first cap).run Tryd.prog w = .ok (.func fn first cap) w := fun _ _ _ _ => rfl
      replace hFl := Lib.hid hFl
      clear hrow hbA hbt hl hd g1 g2 g3 g4 c0 c1 c2 c3 c5 c6 hf
      cases bo with
      | false =>
        have hq : (L, d, (1 : Int)) = (L', d', x) := by have := q.out; rw [if_pos rfl] at this; exact this
        cases hq
        replace hFl := Lib.hid hFl.out.sys
        clear q
        go_wp2
        go_ret
        exact ⟨rfl, hFl.out⟩
      | true =>
        have hq := q.out
        rw [if_neg (by decide)] at hq
        obtain ⟨R, hR⟩ : ∃ R, R = lwr d ((L.first : Int) + L.end_) bt := ⟨_, rfl⟩
        rw [← hR] at hq
        obtain ⟨n, hn⟩ : ∃ n, n = bt.length := ⟨_, rfl⟩
        rw [← hn]
        have hn4 : n ≤ 10000 := by omega
        replace hq := Lib.hid hq
        replace hR := Lib.hid hR
        replace hn := Lib.hid hn
        clear q hbtl
        go_wp2
        go_loopw [43] (fun i wr => ∃ k dk, k ≤ n ∧ i = .int .i64 (k : Nat) ∧ Aside (lwr dk ((L.first : Int) + L.end_ + (k : Nat)) (bt.drop k) = R ∧ FlS K H w0 wr B dk G T L vl vw ps av bt ∧ dk.pend.length + (n - k) ≤ 920000)) (fun i _ => n - (intOf i).toNat)
        case atStart => exact ⟨0, d, Nat.zero_le _, rfl, by rw [hR.out]; simp, hFl.out, by omega⟩
        case round =>
          obtain ⟨k, dk, hk, rfl, hA⟩ := hrel
          obtain ⟨i1, i2, i3⟩ := hA.out
          clear hA hFl hR
          by_cases hlt : k < n
          · have hkl : k < bt.length := by rw [← hn.out]; exact hlt
            have hdr : bt.drop k = bt[k] :: bt.drop (k + 1) := List.drop_eq_getElem_cons hkl
            obtain ⟨b, hb⟩ : ∃ b, b = bt[k] := ⟨_, rfl⟩
            have hcb : ∃ g o, av = some ⟨g, o, none⟩ ∧ wr.cell? ⟨g, o + k, none⟩ = some (.string (mk b)) := by
              obtain ⟨_, _, _, _, _, _, _, _, _, hT, _⟩ := i2
              obtain ⟨g, o, e, hc⟩ := hT k hkl
              exact ⟨g, o, e, by rw [hb]; exact hc⟩
            obtain ⟨g, o, rfl, hcb⟩ := hcb
            obtain ⟨z0, z1, z6, hfz, hGz⟩ := i2.cells
            obtain ⟨dk', hdk'⟩ : ∃ y, y = (Dq.dwrite dk ((L.first : Int) + L.end_ + (k : Nat)) b).1 := ⟨_, rfl⟩
            obtain ⟨x', hx'⟩ : ∃ y, y = (Dq.dwrite dk ((L.first : Int) + L.end_ + (k : Nat)) b).2 := ⟨_, rfl⟩
            have hw1 : Dq.dwrite dk ((L.first : Int) + L.end_ + (k : Nat)) b = (dk', x') := by rw [hdk', hx']
            have hpd := dwrite_pend dk ((L.first : Int) + L.end_ + (k : Nat)) b
            rw [← hdk'] at hpd
            rw [hdr, ← hb, lwr, hw1] at i1
            simp only at i1
            have C := FlS.write _ b hw1 (by omega) i2.drew
            have s1 : IntKind.i64.wrap ((L.first : Int) + L.end_) = (L.first : Int) + L.end_ := IntWalk.i64_in _ (by omega)
            have s2 : IntKind.i64.wrap ((L.first : Int) + L.end_ + (k : Nat)) = (L.first : Int) + L.end_ + (k : Nat) := IntWalk.i64_in _ (by omega)
            have hki : (k : Int) < n := by omega
            replace C := Lib.hid C
            replace hb := Lib.hid hb
            replace i1 := Lib.hid i1
            clear hdr hdk' hx' hw1 i2
            by_cases hx0 : x' = 0
            · subst hx0
              have i1' : lwr dk' ((L.first : Int) + L.end_ + (k : Nat) + 1) (bt.drop (k + 1)) = R := by have := i1.out; rw [if_pos rfl] at this; exact this
              have hcast : (L.first : Int) + L.end_ + (k : Nat) + 1 = (L.first : Int) + L.end_ + ((k + 1 : Nat) : Nat) := by omega
              rw [hcast] at i1'
              replace i1' := Lib.hid i1'
              clear i1 hcast
              go_wp2_with fail
              go_region_with ((go_at_call 35; refine C.out.mono ?_; rintro e wq ⟨rfl, hq2⟩))
              all_goals
                replace hq2 := Lib.hid hq2
                clear s1 s2 z0 z1 z6 hfz hGz hcb C
                go_wp2
                go_roundw
                case rel => exact ⟨k + 1, dk', hlt, by go_num, i1'.out, hq2.out, by omega⟩
                case measure => simp [intOf]; omega
            · have hne : (x' == 0) = false := by rw [beq_eq_false_iff_ne]; exact hx0
              have i1' : (dk', x') = R := by have := i1.out; rw [if_neg hx0] at this; exact this
              subst i1'
              have hq2 : (L, dk', x') = (L', d', x) := by have := hq.out; simp only at this; rw [if_pos hx0] at this; exact this
              cases hq2
              clear i1 hq
              go_wp2_with fail
              go_region_with ((go_at_call 35; refine C.out.mono ?_; rintro e wq ⟨rfl, hq2⟩))
              all_goals
                replace hq2 := Lib.hid hq2.sys
                clear s1 s2
                go_wp2
                go_ret
                exact ⟨rfl, hq2.out⟩
          · obtain rfl : k = n := by omega
            rw [hn.out, List.drop_length, lwr] at i1
            subst i1
            obtain ⟨z0, z1, z6, hfz, hGz⟩ := i2.cells
            obtain ⟨ds, hds⟩ : ∃ y, y = (Dq.dsync dk).1 := ⟨_, rfl⟩
            obtain ⟨xs, hxs⟩ : ∃ y, y = (Dq.dsync dk).2 := ⟨_, rfl⟩
            have hw1 : Dq.dsync dk = (ds, xs) := by rw [hds, hxs]
            have hq1 := hq.out
            rw [hw1] at hq1
            simp only [ne_eq, not_true, if_false] at hq1
            have C := i2.sync hw1
            replace C := Lib.hid C
            clear i2 hds hxs hw1 hq
            by_cases hx0 : xs = 0
            · subst hx0
              simp only [not_true, if_false] at hq1
              rw [← hn.out] at hq1
              cases hq1
              have hcast : (L.end_ : Int) + (k : Int) = ((L.end_ + k : Nat) : Int) := by omega
              go_wp2_with fail
              refine C.out.mono ?_
              rintro e wS ⟨rfl, hS⟩
              obtain ⟨y0, y1, y6, hfy, hGy⟩ := hS.cells
              have y5 : ∃ u, wS.cell? ⟨G, 5, none⟩ = some u := by
                obtain ⟨_, _, _, _, hl, _⟩ := hS
                obtain ⟨_, _, _, _, _, _, _, _, _, _, _, c5, _⟩ := hl.cells
                exact ⟨_, c5⟩
              obtain ⟨u5, y5⟩ := y5
              have hD := Lib.hid (hS.done (n := L.end_ + k) (v := .slice none 0 0) rfl)
              rw [← hcast] at hD
              replace hcast := Lib.hid hcast
              have hf5 := hfy 5
              have hf6 := hfy 6
              clear z0 z1 z6 hfz hGz hfy C hS
              go_wp2
              go_ret
              exact ⟨rfl, hD.out⟩
            · have hne : (xs == 0) = false := by rw [beq_eq_false_iff_ne]; exact hx0
              rw [if_pos hx0] at hq1
              cases hq1
              go_wp2_with fail
              refine C.out.mono ?_
              rintro e wS ⟨rfl, hS⟩
              replace hS := Lib.hid hS.sys
              clear z0 z1 z6 hfz hGz C
              go_wp2
              go_ret
              exact ⟨rfl, hS.out⟩
end
end Go.Proofs.YtofejnhnnmnfpaaDoor
