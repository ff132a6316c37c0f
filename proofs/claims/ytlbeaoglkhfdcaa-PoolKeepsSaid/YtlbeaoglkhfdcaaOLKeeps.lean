/- PoolKeeps's walk. No condition. -/
import Derived.Test.YtlbeaoglkhfdcaaOKeD
import Derived.Test.YtlbeaoglkhfdcaaOOpP
namespace Go.Proofs.Ytlbeaoglkhfdcaa
open Go.RowKit Go.Maps Go.WideShapes
/-- In a round: pool and disk, what was set, the operation. -/
structure KeS (xb db nb ob pb cap : Nat) (op : POp) (i : Nat) (now : Int → ByteArray) (w0 : World) (t : KeT) (s : PS) (w : World) : Prop where
  lp : LP (keDev xb db) (fun k => k = nb ∨ k = ob) w0.heap.size w0 w pb cap t s
  map : SMap w nb i now
  opc : w.heap[ob]? = some (.cells #[.int .i64 op.kind, .int .i64 op.page, .int .i64 op.lsn, .string op.b] 48 (0, 0))
  ne : nb ≠ ob
  lo : w0.heap.size ≤ nb
section
variable {xb db nb ob pb cap i : Nat} {op : POp} {now : Int → ByteArray} {w0 w w' : World} {t t' : KeT} {s s' : PS}
theorem KeS.start {v : Obj} (h : LP (keDev xb db) (fun k => k = nb) w0.heap.size w0 w pb cap t s) (hN : SMap w nb i now) (hv : v = .cells #[.int .i64 op.kind, .int .i64 op.page, .int .i64 op.lsn, .string op.b] 48) (hlo : w0.heap.size ≤ nb) : KeS xb db nb w.heap.size pb cap op i now w0 t s (w.alloc v) := by
  subst hv
  exact ⟨h.widen (World.grownBy_alloc w _ none) (by simp), hN.kept (S := fun _ => False) ((Chg.refl _ w).alloc _) id, heap_alloc_new w _, by have := hN.lt; omega, hlo⟩
theorem KeS.step (h : KeS xb db nb ob pb cap op i now w0 t s w) (hp : LP (keDev xb db) (fun k => k = nb ∨ k = ob) w0.heap.size w0 w' pb cap t' s') (hc : Chg (fun k => ¬ (k = nb ∨ k = ob)) w w') : KeS xb db nb ob pb cap op i now w0 t' s' w' :=
  ⟨hp, h.map.kept hc (fun e => e (.inl rfl)), hc.heap h.opc (fun e => e (.inr rfl)), h.ne, h.lo⟩
theorem KeS.cells (h : KeS xb db nb ob pb cap op i now w0 t s w) : w.cell? ⟨ob, 0, none⟩ = some (.int .i64 op.kind) ∧ w.cell? ⟨ob, 1, none⟩ = some (.int .i64 op.page) ∧ w.cell? ⟨ob, 3, none⟩ = some (.string op.b) ∧ ob < w.heap.size :=
  ⟨cell_of h.opc rfl, cell_of h.opc rfl, cell_of h.opc rfl, lt_of h.opc⟩
theorem KeS.get {n : Int} {b : ByteArray} {er : Int} (h : KeS xb db nb ob pb cap op i now w0 t s w) (hq : pget dvKe cap t s n = (t', s', b, er)) (hn : (Lit.int .i64 n).wf = true) (hck : s.ck < 1000000) (hfew : s.ks.length < 1000000) (hcap : 1 ≤ cap) (hl : t.2 ≤ 100000) :
    Calls Try.prog 13 #[.pointer (some ⟨pb, 0, none⟩), .int .i64 n] w fun e w' => e = .returned (.tuple #[.string b, .int .i64 er]) ∧ KeS xb db nb ob pb cap op i now w0 t' s' w' :=
  (lGet n hq h.lp hn hck hfew hcap (by show 3 ≤ 1000000 - t.2; omega)).mono fun e w' ⟨he, hp, hc⟩ => ⟨he, h.step hp hc⟩
theorem KeS.set {n lsn : Int} {b : ByteArray} {er : Int} (h : KeS xb db nb ob pb cap op i now w0 t s w) (hq : pset dvKe cap t s n b lsn = (t', s', er)) (hn : (Lit.int .i64 n).wf = true) (hck : s.ck < 1000000) (hfew : s.ks.length < 1000000) (hcap : 1 ≤ cap) (hl : t.2 ≤ 100000) :
    Calls Try.prog 21 #[.pointer (some ⟨pb, 0, none⟩), .int .i64 n, .string b, .int .i64 lsn] w fun e w' => e = .returned (.int .i64 er) ∧ KeS xb db nb ob pb cap op i now w0 t' s' w' :=
  (lSet n b lsn hq h.lp hn hck hfew hcap (by show 2 ≤ 1000000 - t.2; omega)).mono fun e w' ⟨he, hp, hc⟩ => ⟨he, h.step hp hc⟩
theorem KeS.flush {n : Int} {er : Int} (h : KeS xb db nb ob pb cap op i now w0 t s w) (hq : pflush dvKe t s n = (t', s', er)) (hn : (Lit.int .i64 n).wf = true) (hl : t.2 ≤ 100000) :
    Calls Try.prog 18 #[.pointer (some ⟨pb, 0, none⟩), .int .i64 n] w fun e w' => e = .returned (.int .i64 er) ∧ KeS xb db nb ob pb cap op i now w0 t' s' w' :=
  (lFlush n hq h.lp hn (by show 2 ≤ 1000000 - t.2; omega)).mono fun e w' ⟨he, hp, hc⟩ => ⟨he, h.step hp hc⟩
theorem KeS.all {er : Int} (h : KeS xb db nb ob pb cap op i now w0 t s w) (hq : pall dvKe t s = (t', s', er)) (hk : s.ks.length ≤ 16) (hl : t.2 ≤ 100000) :
    Calls Try.prog 25 #[.pointer (some ⟨pb, 0, none⟩)] w fun e w' => e = .returned (.int .i64 er) ∧ KeS xb db nb ob pb cap op i now w0 t' s' w' :=
  (lAll hq h.lp (by show _ ≤ 1000000 - t.2; omega)).mono fun e w' ⟨he, hp, hc⟩ => ⟨he, h.step hp hc⟩
theorem KeS.has (h : KeS xb db nb ob pb cap op i now w0 t s w) : Calls Try.prog 14 #[.pointer (some ⟨pb, 0, none⟩)] w fun e w' => ∃ a c, e = .returned (.slice a s.ks.length c) ∧ KeS xb db nb ob pb cap op i now w0 t s w' :=
  (lHas h.lp).mono fun e w' ⟨a, c, he, _, hp, hb⟩ => ⟨a, c, he, h.step hp ((Chg.of_below hb))⟩
theorem KeS.dirty {l : List (Int × Int)} (h : KeS xb db nb ob pb cap op i now w0 t s w) (hl : pdirty s = l) : Calls Try.prog 20 #[.pointer (some ⟨pb, 0, none⟩)] w fun e w' => ∃ a c, e = .returned (.slice a l.length c) ∧ KeS xb db nb ob pb cap op i now w0 t s w' :=
  (lDirty hl h.lp).mono fun e w' ⟨a, c, he, _, hp, hb⟩ => ⟨a, c, he, h.step hp ((Chg.of_below hb))⟩
theorem KeS.store (h : KeS xb db nb ob pb cap op i now w0 t s w) {j : Nat} {now' : Int → ByteArray} (hM : SMap w' nb j now') (hg : w.grownBy w' (some nb)) : KeS xb db nb ob pb cap op j now' w0 t s w' := by
  have hc : Chg (fun k => k = nb) w w' := (Chg.refl _ w).grown hg (fun j _ e => by cases e; rfl)
  exact ⟨h.lp.kept hc (fun k e _ => ⟨by rw [e]; exact h.lo, .inl e⟩), hM, hc.heap h.opc (fun e => h.ne e.symm), h.ne, h.lo⟩
theorem KeS.done (h : KeS xb db nb ob pb cap op i now w0 t s w) {j : Nat} (hj : i ≤ j) : SMap w nb j now ∧ LP (keDev xb db) (fun k => k = nb) w0.heap.size w0 w pb cap t s := by
  refine ⟨?_, h.lp.shrink (fun _ e => .inl e)⟩
  obtain ⟨D, h1, h2⟩ := h.map
  exact ⟨D, h1.mono hj, h2⟩
end
theorem poolKeeps_no (a0 : Int) (v : Value) (l : List POp) (w : World) (hv : IsOps w v l) (h : a0 < 1 ∨ 16 < a0 ∨ 100 < l.length) : Calls Try.prog 6 #[.int .i64 a0, v] w fun e w' => e = .returned (.bool true) ∧ Below w.heap.size w w' := by
  obtain ⟨a, c, rfl, _⟩ := hv
  have hal := Lib.hid (alive_true w)
  by_cases h1 : a0 < 1
  · clear h
    go_enter Try.func6, Try.ntmps6
    go_wp2_with fail
    refine hal.out.mono ?_
    rintro e w1 ⟨rfl, hb⟩
    replace hb := Lib.hid hb
    go_wp2
    go_ret
    exact ⟨rfl, hb.out⟩
  · by_cases h2 : 16 < a0
    · clear h
      go_enter Try.func6, Try.ntmps6
      go_wp2_with fail
      refine hal.out.mono ?_
      rintro e w1 ⟨rfl, hb⟩
      replace hb := Lib.hid hb
      go_wp2
      go_ret
      exact ⟨rfl, hb.out⟩
    · have h3 : (100 : Int) < ((l.length : Nat) : Int) := by omega
      clear h
      go_enter Try.func6, Try.ntmps6
      go_wp2_with fail
      refine hal.out.mono ?_
      rintro e w1 ⟨rfl, hb⟩
      replace hb := Lib.hid hb
      go_wp2
      go_ret
      exact ⟨rfl, hb.out⟩
set_option maxRecDepth 100000 in
set_option maxHeartbeats 3200000 in
theorem poolKeeps_yes (cap : Nat) (a : Option Addr) (c : Nat) (l : List POp) (w : World) (hA : ∀ j (h : j < l.length), OpAt w a j l[j]) (h1 : 1 ≤ cap) (h2 : cap ≤ 16) (h3 : l.length ≤ 100) :
    Calls Try.prog 6 #[.int .i64 (cap : Int), .slice a l.length c] w fun e w' => e = .returned (.bool true) ∧ Below w.heap.size w w' := by
  have hal := Lib.hid (alive_true w)
  have hmm := @run_makeMap Try.prog
  have hmf : ∀ (fn : Fn) (first cap : Array Value) (w : World), (Instr.makeFunc fn first cap).run Try.prog w = .ok (.func fn first cap) w := fun _ _ _ _ => rfl
  have g1 : ¬ ((cap : Nat) : Int) < 1 := by omega
  have g2 : ¬ (16 : Int) < ((cap : Nat) : Int) := by omega
  have g3 : ¬ (100 : Int) < ((l.length : Nat) : Int) := by omega
  replace hA := Lib.hid hA
  go_enter Try.func6, Try.ntmps6
  go_wp2_with fail
  refine hal.out.mono ?_
  rintro e w1 ⟨rfl, hb1⟩
  replace hb1 := Lib.hid hb1
  have c1 := ke_start cap h1 h2 w w1 hb1.out
  replace c1 := Lib.hid c1
  go_wp2_with fail
  refine c1.out.mono ?_
  rintro e w2 ⟨pb, rfl, p2, hN2, hlo⟩
  replace p2 := Lib.hid p2
  replace hN2 := Lib.hid hN2
  clear c1
  go_wp2
  go_loopg [46] l.length (fun g i wr => ∃ (k : Nat) (t : KeT) (s : PS) (now : Int → ByteArray), g + k = l.length ∧ i = .int .i64 k ∧ Aside (Kv now t s ∧ s.ks.length ≤ cap ∧ s.ck ≤ k ∧ t.2 ≤ 100 * k ∧ SMap wr w2.heap.size k now ∧ LP (keDev (w1.heap.size + 1) w1.heap.size) (fun k => k = w2.heap.size) w.heap.size w wr pb cap t s))
  case atStart => exact ⟨0, (fun _ => ByteArray.empty, 0), PS.new, fun _ => ByteArray.empty, rfl, rfl, Kv.new 0, by simp [PS.new], by simp [PS.new], by simp, hN2.out, p2.out⟩
  case round =>
    obtain ⟨i, t, s, now, hi, rfl, hI⟩ := hrel
    obtain ⟨i1, i2, i3, i4, i5, i6⟩ := hI.out
    by_cases hlt : i < l.length
    · obtain ⟨x, hx⟩ : ∃ x, x = l[i] := ⟨_, rfl⟩
      have hop := hA.out i hlt
      rw [← hx] at hop
      obtain ⟨x1, x2, x3, b3, o3, rfl, d0, d1, d2, d3⟩ := hop
      replace d0 := cell_more i6.was.1 d0
      replace d1 := cell_more i6.was.1 d1
      replace d2 := cell_more i6.was.1 d2
      replace d3 := cell_more i6.was.1 d3
      have hbl := World.block_lt_of_cell? wr _ d0
      obtain ⟨kd, pg, ls, bb⟩ := x
      replace hx := Lib.hid hx
      simp only at x1 x2 x3 d0 d1 d2 d3
      clear hI
      have hS := KeS.start (op := ⟨kd, pg, ls, bb⟩) i6 i5 rfl hlo
      have hw0 := Lib.hid i6.was.1
      have hwx := hS.cells
      obtain ⟨oc0, oc1, oc3, ocl⟩ := hwx
      simp only at oc0 oc1 oc3
      replace hS := Lib.hid hS
      have hB := Lib.hid ((i6.was.1).alloc i6.was.2 (.cells #[.int .i64 kd, .int .i64 pg, .int .i64 ls, .string bb] 48))
      clear i5 i6
      by_cases hbb : (40 : Int) < ((bb.size : Nat) : Int)
      · clear i1
        go_wp2
        go_ret
        exact ⟨rfl, hB.out⟩
      · by_cases hk1 : kd = 1
        · subst hk1
          obtain ⟨t', s', hq, hKv, hck⟩ := i1.get h1 pg
          have hlen' := pget_len (D := dvKe) (t := t) (cap := cap) pg hS.out.lp.ok.rise i2 h1
          have hlf := pget_left (E := keDev 0 0) (cap := cap) t s pg
          rw [hq] at hlen' hlf
          have hlf2 : t'.2 ≤ 100 * (i + 1) := by have : 1000000 - t.2 ≤ 1000000 - t'.2 + 3 := hlf; omega
          simp only at hlen'
          have cG := hS.out.get hq x2 (by omega) (by omega) h1 (by omega)
          replace cG := Lib.hid cG
          replace hKv := Lib.hid hKv
          clear i1 hq hlf
          go_wp2_with fail
          refine cG.out.mono ?_
          rintro e w5 ⟨rfl, p5⟩
          obtain ⟨f0, f1, f3, fl⟩ := p5.cells
          simp only at f0 f1 f3
          have hl5 := p5.map.look x2
          clear cG oc0 oc1 oc3 ocl
          have cH := p5.has
          replace cH := Lib.hid cH
          replace p5 := Lib.hid p5
          go_wp2_with fail
          refine cH.out.mono ?_
          rintro e wh ⟨ah, ch, rfl, ph⟩
          obtain ⟨n1, n2⟩ := ph.done (show i ≤ i + 1 by omega)
          replace n1 := Lib.hid n1
          replace n2 := Lib.hid n2
          clear cH ph
          go_wp2
          go_roundg (l.length - (i + 1))
          case rel => exact ⟨i + 1, t', s', now, by omega, by go_num, hKv.out, hlen', by omega, hlf2, n1.out, n2.out⟩
          case measure => omega
        · by_cases hk2 : kd = 2
          · subst hk2
            obtain ⟨t', s', hq, hKv, hck⟩ := i1.set h1 pg bb i
            have hlen' := pset_len (D := dvKe) (t := t) (cap := cap) pg bb i hS.out.lp.ok.rise i2 h1
            have hlf := pset_left (E := keDev 0 0) (cap := cap) t s pg bb i
            rw [hq] at hlen' hlf
            have hlf2 : t'.2 ≤ 100 * (i + 1) := by have : 1000000 - t.2 ≤ 1000000 - t'.2 + 2 := hlf; omega
            simp only at hlen'
            have cG := hS.out.set hq x2 (by omega) (by omega) h1 (by omega)
            replace cG := Lib.hid cG
            replace hKv := Lib.hid hKv
            clear i1 hq hlf
            go_wp2_with fail
            refine cG.out.mono ?_
            rintro e w5 ⟨rfl, p5⟩
            obtain ⟨f0, f1, f3, fl⟩ := p5.cells
            simp only at f0 f1 f3
            replace p5 := Lib.hid p5
            clear cG oc0 oc1 oc3 ocl
            go_wp2_with (at_mapUpdate; refine wpList_smap_store rfl _ _ _ rfl rfl p5.out.map (by unfold maxLen; omega) pg rfl x2 bb rfl ?_; intro w6 hM6 hg6; replace hM6 := Lib.hid hM6; replace hg6 := Lib.hid hg6)
            have p6 := p5.out.store hM6.out hg6.out
            clear f0 f1 f3 fl p5 hM6 hg6
            have cH := p6.has
            replace cH := Lib.hid cH
            replace p6 := Lib.hid p6
            go_wp2_with fail
            refine cH.out.mono ?_
            rintro e wh ⟨ah, ch, rfl, ph⟩
            obtain ⟨n1, n2⟩ := ph.done (show i + 1 ≤ i + 1 by omega)
            replace n1 := Lib.hid n1
            replace n2 := Lib.hid n2
            clear cH ph
            go_wp2
            go_roundg (l.length - (i + 1))
            case rel => exact ⟨i + 1, t', s', _, by omega, by go_num, hKv.out, hlen', by omega, hlf2, n1.out, n2.out⟩
            case measure => omega
          · by_cases hk3 : kd = 3
            · subst hk3
              obtain ⟨t', s', hq, hKv, hck, hfl⟩ := i1.flush pg
              have hlen' : s'.ks.length ≤ cap := by
                have := (pflush_ks dvKe t s pg).1
                rw [hq] at this
                simp only at this
                rw [this]; exact i2
              have hlf := pflush_left (E := keDev 0 0) t s pg
              rw [hq] at hlf
              have hlf2 : t'.2 ≤ 100 * (i + 1) := by have : 1000000 - t.2 ≤ 1000000 - t'.2 + 2 := hlf; omega
              have cG := hS.out.flush hq x2 (by omega)
              replace cG := Lib.hid cG
              replace hKv := Lib.hid hKv
              clear i1 hq hlf
              go_wp2_with fail
              refine cG.out.mono ?_
              rintro e w5 ⟨rfl, p5⟩
              obtain ⟨f0, f1, f3, fl⟩ := p5.cells
              simp only at f0 f1 f3
              have hl5 := p5.map.look x2
              obtain ⟨d5, dl5, dm5⟩ := p5.lp.disk
              have hl6 := dm5.look x2
              rw [hfl] at hl6
              clear cG oc0 oc1 oc3 ocl dm5
              have cH := p5.has
              replace cH := Lib.hid cH
              replace p5 := Lib.hid p5
              go_wp2_with fail
              refine cH.out.mono ?_
              rintro e wh ⟨ah, ch, rfl, ph⟩
              obtain ⟨n1, n2⟩ := ph.done (show i ≤ i + 1 by omega)
              replace n1 := Lib.hid n1
              replace n2 := Lib.hid n2
              clear cH ph
              go_wp2
              go_roundg (l.length - (i + 1))
              case rel => exact ⟨i + 1, t', s', now, by omega, by go_num, hKv.out, hlen', by omega, hlf2, n1.out, n2.out⟩
              case measure => omega
            · by_cases hk4 : kd = 4
              · subst hk4
                obtain ⟨t', s', hq, hKv, hck, hks, hdn, hal4⟩ := i1.all
                have hlen' : s'.ks.length ≤ cap := by rw [hks]; exact i2
                have hlf := pallOf_left dvKe (keDev 0 0) s.ks t s
                rw [show pallOf dvKe s.ks t s = (t', s', 0) from hq] at hlf
                have hlf2 : t'.2 ≤ 100 * (i + 1) := by have : 1000000 - t.2 ≤ 1000000 - t'.2 + 2 * s.ks.length := hlf; omega
                have cG := hS.out.all hq (by omega) (by omega)
                replace cG := Lib.hid cG
                replace hKv := Lib.hid hKv
                clear i1 hq hlf
                go_wp2_with fail
                refine cG.out.mono ?_
                rintro e w5 ⟨rfl, p5⟩
                have cD := p5.dirty hdn
                replace cD := Lib.hid cD
                clear cG oc0 oc1 oc3 ocl p5
                go_wp2_with fail
                refine cD.out.mono ?_
                rintro e w6 ⟨a6, c6, rfl, p6⟩
                replace p6 := Lib.hid p6
                clear cD
                go_wp2_with (at_range; refine wpList_smap_range rfl _ rfl rfl p6.out.map ?_; intro w7 cnt hR hg7 hs7)
                go_frame
                have q7 := p6.out.lp.widen hg7 hs7
                have n7 := p6.out.map.kept (S := fun _ => False) ((Chg.refl _ w6).grown hg7 (fun j _ e => by cases e)) id
                have hr6 : w2.heap.size < w6.heap.size := p6.out.map.lt
                have hb6 := q7.was.2
                replace q7 := Lib.hid q7
                replace n7 := Lib.hid n7
                have hR0 := Lib.hid hR
                clear p6 hR hg7
                go_loopg [] cnt (fun g wq => Aside (SRange wq w2.heap.size w6.heap.size now g ∧ LP (keDev (w1.heap.size + 1) w1.heap.size) (fun k => (k = w2.heap.size ∨ k = wr.heap.size) ∨ k = w6.heap.size) w.heap.size w wq pb cap t' s' ∧ SMap wq w2.heap.size i now))
                case atStart => exact ⟨hR0.out, q7.out, n7.out⟩
                case round =>
                  obtain ⟨j1, j2, j3⟩ := hrel.out
                  clear hrel q7 n7 hR0
                  replace j2 := Lib.hid j2
                  replace j3 := Lib.hid j3
                  go_wp2_with (at_next; refine wpList_smap_next rfl _ rfl rfl j1 ?_ ?_)
                  · have cH := lHas j2.out
                    replace cH := Lib.hid cH
                    clear j1 j2
                    go_wp2_with fail
                    refine cH.out.mono ?_
                    rintro e wh ⟨ah, ch, rfl, _, ph, hbh⟩
                    have n1 := j3.out.kept (S := fun _ => False) (Chg.of_below hbh) id
                    have n2 := ph.shrink (K' := fun k => k = w2.heap.size) (fun k e => .inl (.inl e))
                    replace n1 : Hid (SMap wh w2.heap.size (i + 1) now) := Lib.hid (by obtain ⟨D, h1, h2⟩ := n1; exact ⟨D, h1.mono (by omega), h2⟩)
                    replace n2 := Lib.hid n2
                    clear cH ph j3 hbh
                    go_wp2
                    go_roundg (l.length - (i + 1))
                    case rel => exact ⟨i + 1, t', s', now, by omega, by go_num, hKv.out, hlen', by omega, hlf2, n1.out, n2.out⟩
                    case measure => omega
                  · intro x w4 cnt4 hxw hR4 hlt4 hg4 hs4 hen
                    have q4 := j2.out.kept (S := fun k => k = w6.heap.size) ((Chg.refl _ _).grown hg4 (fun j _ e => by cases e; rfl)) (fun k e _ => ⟨by rw [e]; omega, .inr e⟩)
                    have n4 := j3.out.kept (S := fun k => k = w6.heap.size) ((Chg.refl _ _).grown hg4 (fun j _ e => by cases e; rfl)) (show ¬ w2.heap.size = w6.heap.size by omega)
                    obtain ⟨d5, dl5, dm5⟩ := q4.disk
                    have hl6 := dm5.look hxw
                    rw [hal4] at hl6
                    replace q4 := Lib.hid q4
                    replace n4 := Lib.hid n4
                    replace hR4 := Lib.hid hR4
                    clear dm5 j1 j2 j3 hg4
                    go_wp2
                    go_roundg cnt4
                    case rel => exact ⟨hR4.out, q4.out, n4.out⟩
                    case measure => exact hlt4
              · have hc1 : (1 == kd) = false := by rw [beq_eq_false_iff_ne]; omega
                have hc2 : (2 == kd) = false := by rw [beq_eq_false_iff_ne]; omega
                have hc3 : (3 == kd) = false := by rw [beq_eq_false_iff_ne]; omega
                have hc4 : (4 == kd) = false := by rw [beq_eq_false_iff_ne]; omega
                have hc1' : (kd == 1) = false := by rw [beq_eq_false_iff_ne]; omega
                have hc2' : (kd == 2) = false := by rw [beq_eq_false_iff_ne]; omega
                have hc3' : (kd == 3) = false := by rw [beq_eq_false_iff_ne]; omega
                have hc4' : (kd == 4) = false := by rw [beq_eq_false_iff_ne]; omega
                have p5 := hS.out
                replace i1 := Lib.hid i1
                have cH := p5.has
                replace cH := Lib.hid cH
                replace p5 := Lib.hid p5
                go_wp2_with fail
                refine cH.out.mono ?_
                rintro e wh ⟨ah, ch, rfl, ph⟩
                obtain ⟨n1, n2⟩ := ph.done (show i ≤ i + 1 by omega)
                replace n1 := Lib.hid n1
                replace n2 := Lib.hid n2
                clear cH ph
                go_wp2
                go_roundg (l.length - (i + 1))
                case rel => exact ⟨i + 1, t, s, now, by omega, by go_num, i1.out, i2, by omega, by omega, n1.out, n2.out⟩
                case measure => omega
    · have hw := Lib.hid i6.was.1
      clear hI i1 i2 i3 i4 i5 i6
      go_wp2
      go_ret
      exact ⟨rfl, hw.out⟩
theorem poolKeeps_walk (a0 : Int) (v : Value) (l : List POp) (w : World) (_w0 : (Lit.int .i64 a0).wf = true) (hv : IsOps w v l) : Calls Try.prog 6 #[.int .i64 a0, v] w fun e w' => e = .returned (.bool true) ∧ Below w.heap.size w w' := by
  by_cases h : a0 < 1 ∨ 16 < a0 ∨ 100 < l.length
  · exact poolKeeps_no a0 v l w hv h
  · obtain ⟨cap, rfl⟩ : ∃ c : Nat, a0 = c := ⟨a0.toNat, by omega⟩
    obtain ⟨a, c, rfl, hA⟩ := hv
    exact poolKeeps_yes cap a c l w hA (by omega) (by omega) (by omega)
end Go.Proofs.Ytlbeaoglkhfdcaa
