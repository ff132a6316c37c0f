/- PoolOrder's walk. No condition. -/
import Derived.Test.YtlbeaoglkhfdcaaOOrP
import Derived.Test.YtlbeaoglkhfdcaaOStrM
import Derived.Test.YtlbeaoglkhfdcaaOAlive
import Derived.Test.YtlbeaoglkhfdcaaOOpP
import Derived.Laws.MakeOwn
import Derived.Test.YtlbeaoglkhfdcaaOKeD
namespace Go.Proofs.Ytlbeaoglkhfdcaa
open Go.RowKit Go.Maps Go.WideShapes
theorem infoStr : (Try.prog.info? 9).map (fun i => (i.zero, i.size, i.bytes)) = some (some (.string ByteArray.empty), 1, 16) := by kernel_rfl
theorem noPages_le : noPages.length ≤ 1000000 := by simp [noPages]
abbrev orDev (rb gb : Nat) : Dev dvOr := devRec noPages noPages_le rb gb 0 40
theorem mk40 : ∃ Z : Array Value, (∀ j, j < 40 → Z[j]? = some (.string ByteArray.empty)) ∧ ∀ w : World, (Instr.makeSlice 42 (.int .i64 40) (.int .i64 40)).run Try.prog w = .ok (.slice (some ⟨w.heap.size, 0, none⟩) 40 40) (w.alloc (.cells Z 9)) := by
  refine ⟨madeCells (Value.string ByteArray.empty).cells (40 * 1), ?_, ?_⟩
  · have : madeCells (Value.string ByteArray.empty).cells (40 * 1) = Array.replicate 40 (.string ByteArray.empty) := by kernel_rfl
    rw [this]
    intro j hj
    simp [hj]
  · intro w
    obtain ⟨i, hi, hz, h1, h2⟩ := info_parts infoStr
    have := run_makeSlice w 42 9 i (.string ByteArray.empty) Try.underlying42 hi hz .i64 .i64 40 40 (by omega) (by omega) (by rw [h1]; omega) (by rw [h2]; omega) (by omega)
    rw [h1] at this
    exact this
theorem or_start (cap : Nat) (h1 : 1 ≤ cap) (h2 : cap ≤ 16) (Z : Array Value) (hZ : ∀ j, j < 40 → Z[j]? = some (.string ByteArray.empty)) (w0 w1 : World) (hb : Below w0.heap.size w0 w1) :
    Calls Try.prog 12 #[.int .i64 cap, .func (.func 22) #[.pointer (some ⟨w1.heap.size + 1, 0, none⟩)] #[], .func (.func 23) #[.pointer (some ⟨w1.heap.size + 1, 0, none⟩)] #[], .func (.func 24) #[.pointer (some ⟨w1.heap.size + 1, 0, none⟩)] #[]] ((w1.alloc (.cells Z 9)).alloc (.cells #[.slice none 0 0, .slice (some ⟨w1.heap.size, 0, none⟩) 40 40, .int .i64 0] 45)) fun e w' => ∃ pb, e = .returned (.pointer (some ⟨pb, 0, none⟩)) ∧ LP (orDev (w1.heap.size + 1) w1.heap.size) (fun k => k = w'.heap.size) w0.heap.size w0 (w'.alloc (.map #[] 0)) pb cap [] PS.new ∧ TMap (w'.alloc (.map #[] 0)) w'.heap.size 0 (fun _ => 0) ∧ w0.heap.size ≤ w'.heap.size := by
  have hs := hb.size
  have hR := rec_start (w1 := w1.alloc (.cells Z 9)) (pages := noPages) (gb := w1.heap.size) (go := 0) (gc := 40) (by
    intro j hj
    have hj2 : j < 40 := by simpa [noPages] using hj
    have e : noPages[j] = ByteArray.empty := List.getElem_replicate hj
    rw [e]
    refine cell_of (heap_alloc_new w1 (.cells Z 9)) ?_
    rw [Nat.zero_add]
    exact hZ j hj2) (by simp)
  rw [show (w1.alloc (.cells Z 9)).heap.size = w1.heap.size + 1 by simp, show noPages.length = 40 by simp [noPages]] at hR
  have hb2 : Below w0.heap.size w0 ((w1.alloc (.cells Z 9)).alloc (.cells #[.slice none 0 0, .slice (some ⟨w1.heap.size, 0, none⟩) 40 40, .int .i64 0] 45)) := (hb.alloc hs _).alloc (by simp; omega) _
  refine (lNew (E := orDev (w1.heap.size + 1) w1.heap.size) (K := fun _ => False) (B := w0.heap.size) (w0 := w0) (t := []) h1 h2 hR (fun k hk => ⟨by omega, id⟩) hb2 hb2.size (fun _ h => h.elim)).mono ?_
  rintro e w' ⟨pb, rfl, ⟨G, k1, k2, k3, k4, k5⟩, _⟩
  exact ⟨pb, rfl, ⟨G, k1.kept (S := fun _ => False) ((Chg.refl _ w').alloc _) (fun _ _ => id), fun k hk => ⟨(k2 k hk).1, fun e => by have := k1.lt k hk; omega⟩, k3.trans ((Chg.refl (fun _ => False) w').alloc _ |>.below (fun _ _ h => h.elim) k4), by simp; omega, fun k hk => by simp; omega⟩, TMap.made w', k4⟩
/-- In a round: pool and disk, what was set, the operation. -/
structure OrS (rb gb nb ob pb cap : Nat) (op : POp) (i : Nat) (now : ByteArray → Int) (w0 : World) (t : St) (s : PS) (w : World) : Prop where
  lp : LP (orDev rb gb) (fun k => k = nb ∨ k = ob) w0.heap.size w0 w pb cap t s
  map : TMap w nb i now
  opc : w.heap[ob]? = some (.cells #[.int .i64 op.kind, .int .i64 op.page, .int .i64 op.lsn, .string op.b] 48 (0, 0))
  ne : nb ≠ ob
  lo : w0.heap.size ≤ nb
section
variable {rb gb nb ob pb cap i : Nat} {op : POp} {now : ByteArray → Int} {w0 w w' : World} {t t' : St} {s s' : PS}
theorem OrS.start {v : Obj} (h : LP (orDev rb gb) (fun k => k = nb) w0.heap.size w0 w pb cap t s) (hN : TMap w nb i now) (hv : v = .cells #[.int .i64 op.kind, .int .i64 op.page, .int .i64 op.lsn, .string op.b] 48) (hlo : w0.heap.size ≤ nb) : OrS rb gb nb w.heap.size pb cap op i now w0 t s (w.alloc v) := by
  subst hv
  exact ⟨h.widen (World.grownBy_alloc w _ none) (by simp), hN.kept (S := fun _ => False) ((Chg.refl _ w).alloc _) id, heap_alloc_new w _, by have := hN.lt; omega, hlo⟩
theorem OrS.step (h : OrS rb gb nb ob pb cap op i now w0 t s w) (hp : LP (orDev rb gb) (fun k => k = nb ∨ k = ob) w0.heap.size w0 w' pb cap t' s') (hc : Chg (fun k => ¬ (k = nb ∨ k = ob)) w w') : OrS rb gb nb ob pb cap op i now w0 t' s' w' :=
  ⟨hp, h.map.kept hc (fun e => e (.inl rfl)), hc.heap h.opc (fun e => e (.inr rfl)), h.ne, h.lo⟩
theorem OrS.cells (h : OrS rb gb nb ob pb cap op i now w0 t s w) : w.cell? ⟨ob, 0, none⟩ = some (.int .i64 op.kind) ∧ w.cell? ⟨ob, 1, none⟩ = some (.int .i64 op.page) ∧ w.cell? ⟨ob, 3, none⟩ = some (.string op.b) ∧ ob < w.heap.size :=
  ⟨cell_of h.opc rfl, cell_of h.opc rfl, cell_of h.opc rfl, lt_of h.opc⟩
theorem OrS.get {n : Int} {b : ByteArray} {er : Int} (h : OrS rb gb nb ob pb cap op i now w0 t s w) (hq : pget dvOr cap t s n = (t', s', b, er)) (hn : (Lit.int .i64 n).wf = true) (hck : s.ck < 1000000) (hfew : s.ks.length < 1000000) (hcap : 1 ≤ cap) (hl : t.length ≤ 100000) :
    Calls Try.prog 13 #[.pointer (some ⟨pb, 0, none⟩), .int .i64 n] w fun e w' => e = .returned (.tuple #[.string b, .int .i64 er]) ∧ OrS rb gb nb ob pb cap op i now w0 t' s' w' :=
  (lGet n hq h.lp hn hck hfew hcap (by show 3 ≤ 1000000 - t.length; omega)).mono fun e w' ⟨he, hp, hc⟩ => ⟨he, h.step hp hc⟩
theorem OrS.set {n lsn : Int} {b : ByteArray} {er : Int} (h : OrS rb gb nb ob pb cap op i now w0 t s w) (hq : pset dvOr cap t s n b lsn = (t', s', er)) (hn : (Lit.int .i64 n).wf = true) (hck : s.ck < 1000000) (hfew : s.ks.length < 1000000) (hcap : 1 ≤ cap) (hl : t.length ≤ 100000) :
    Calls Try.prog 21 #[.pointer (some ⟨pb, 0, none⟩), .int .i64 n, .string b, .int .i64 lsn] w fun e w' => e = .returned (.int .i64 er) ∧ OrS rb gb nb ob pb cap op i now w0 t' s' w' :=
  (lSet n b lsn hq h.lp hn hck hfew hcap (by show 2 ≤ 1000000 - t.length; omega)).mono fun e w' ⟨he, hp, hc⟩ => ⟨he, h.step hp hc⟩
theorem OrS.flush {n : Int} {er : Int} (h : OrS rb gb nb ob pb cap op i now w0 t s w) (hq : pflush dvOr t s n = (t', s', er)) (hn : (Lit.int .i64 n).wf = true) (hl : t.length ≤ 100000) :
    Calls Try.prog 18 #[.pointer (some ⟨pb, 0, none⟩), .int .i64 n] w fun e w' => e = .returned (.int .i64 er) ∧ OrS rb gb nb ob pb cap op i now w0 t' s' w' :=
  (lFlush n hq h.lp hn (by show 2 ≤ 1000000 - t.length; omega)).mono fun e w' ⟨he, hp, hc⟩ => ⟨he, h.step hp hc⟩
theorem OrS.all {er : Int} (h : OrS rb gb nb ob pb cap op i now w0 t s w) (hq : pall dvOr t s = (t', s', er)) (hk : s.ks.length ≤ 16) (hl : t.length ≤ 100000) :
    Calls Try.prog 25 #[.pointer (some ⟨pb, 0, none⟩)] w fun e w' => e = .returned (.int .i64 er) ∧ OrS rb gb nb ob pb cap op i now w0 t' s' w' :=
  (lAll hq h.lp (by show _ ≤ 1000000 - t.length; omega)).mono fun e w' ⟨he, hp, hc⟩ => ⟨he, h.step hp hc⟩
theorem OrS.has (h : OrS rb gb nb ob pb cap op i now w0 t s w) : Calls Try.prog 14 #[.pointer (some ⟨pb, 0, none⟩)] w fun e w' => ∃ a c, e = .returned (.slice a s.ks.length c) ∧ OrS rb gb nb ob pb cap op i now w0 t s w' :=
  (lHas h.lp).mono fun e w' ⟨a, c, he, _, hp, hb⟩ => ⟨a, c, he, h.step hp ((Chg.of_below hb))⟩
theorem OrS.dirty {l : List (Int × Int)} (h : OrS rb gb nb ob pb cap op i now w0 t s w) (hl : pdirty s = l) : Calls Try.prog 20 #[.pointer (some ⟨pb, 0, none⟩)] w fun e w' => ∃ a c, e = .returned (.slice a l.length c) ∧ OrS rb gb nb ob pb cap op i now w0 t s w' :=
  (lDirty hl h.lp).mono fun e w' ⟨a, c, he, _, hp, hb⟩ => ⟨a, c, he, h.step hp ((Chg.of_below hb))⟩
theorem OrS.alloc (h : OrS rb gb nb ob pb cap op i now w0 t s w) (x : Obj) : OrS rb gb nb ob pb cap op i now w0 t s (w.alloc x) :=
  h.step (h.lp.more ((Below.refl _ _).alloc (Nat.le_refl _) _)) ((Chg.refl _ w).alloc x)
theorem conv_or (k m : Nat) (hk : k < 256) (hm : m < 256) (w : World) (x : Obj) (u : Value) (hu : u = .int .u8 0) :
    (convert 50 9 (.slice (some ⟨w.heap.size + 1, 0, none⟩) 4 4)).run Try.prog ((w.alloc x).alloc (.cells #[.int .u8 k, u, .int .u8 m, .int .u8 98] 5)) = .ok (.string ⟨#[UInt8.ofNat k, 0, UInt8.ofNat m, 98]⟩) ((w.alloc x).alloc (.cells #[.int .u8 k, u, .int .u8 m, .int .u8 98] 5)) := by
  subst hu
  have hb := heap_alloc_new (w.alloc x) (.cells #[.int .u8 k, .int .u8 0, .int .u8 m, .int .u8 98] 5)
  rw [show (w.alloc x).heap.size = w.heap.size + 1 by simp] at hb
  refine run_convert_bytes_back _ 50 9 5 ⟨w.heap.size + 1, 0, none⟩ 4 [UInt8.ofNat k, 0, UInt8.ofNat m, 98] Try.underlying50 Try.underlying5 Try.underlying9 fun j hj => ?_
  match j, hj with
  | 0, _ => rw [Addr.add_lit, cell_of hb rfl]; simp [UInt8.toNat_ofNat', Nat.mod_eq_of_lt hk]
  | 1, _ => rw [Addr.add_lit, cell_of hb rfl]; rfl
  | 2, _ => rw [Addr.add_lit, cell_of hb rfl]; simp [UInt8.toNat_ofNat', Nat.mod_eq_of_lt hm]
  | 3, _ => rw [Addr.add_lit, cell_of hb rfl]; rfl
theorem OrS.store (h : OrS rb gb nb ob pb cap op i now w0 t s w) {j : Nat} {now' : ByteArray → Int} (hM : TMap w' nb j now') (hg : w.grownBy w' (some nb)) : OrS rb gb nb ob pb cap op j now' w0 t s w' := by
  have hc : Chg (fun k => k = nb) w w' := (Chg.refl _ w).grown hg (fun j _ e => by cases e; rfl)
  exact ⟨h.lp.kept hc (fun k e _ => ⟨by rw [e]; exact h.lo, .inl e⟩), hM, hc.heap h.opc (fun e => h.ne e.symm), h.ne, h.lo⟩
theorem OrS.done (h : OrS rb gb nb ob pb cap op i now w0 t s w) {j : Nat} (hj : i ≤ j) : TMap w nb j now ∧ LP (orDev rb gb) (fun k => k = nb) w0.heap.size w0 w pb cap t s := by
  refine ⟨?_, h.lp.shrink (fun _ e => .inl e)⟩
  obtain ⟨D, h1, h2⟩ := h.map
  exact ⟨D, h1.mono hj, h2⟩
end
/-- What was made has in its first byte when. -/
def FrM (made : ByteArray → Int) (i : Nat) : Prop := ∀ x : ByteArray, made x ≠ 0 → (∃ j < i, x.data[0]? = some (UInt8.ofNat j)) ∧ x.size ≤ 4
theorem FrM.start : FrM (fun _ => 0) 0 := fun x h => absurd rfl h
theorem FrM.next {made : ByteArray → Int} {i : Nat} (h : FrM made i) : FrM made (i + 1) := fun x hx => by
  obtain ⟨⟨j, hj, e⟩, e2⟩ := h x hx
  exact ⟨⟨j, by omega, e⟩, e2⟩
theorem FrM.set {made : ByteArray → Int} {i : Nat} (h : FrM made i) (hi : i < 256) {b : ByteArray} (hb : b.data[0]? = some (UInt8.ofNat i)) (h4 : b.size ≤ 4) (v : Int) : made b = 0 ∧ FrM (fun x => if x = b then v else made x) (i + 1) := by
  refine ⟨Classical.byContradiction fun e => ?_, fun x hx => ?_⟩
  · obtain ⟨⟨j, hj, e2⟩, _⟩ := h b e
    rw [hb] at e2
    simp only [Option.some.injEq] at e2
    have := congrArg UInt8.toNat e2
    simp at this
    omega
  · by_cases e : x = b
    · subst e
      exact ⟨⟨i, by omega, hb⟩, h4⟩
    · simp only [if_neg e] at hx
      obtain ⟨⟨j, hj, e2⟩, e3⟩ := h x hx
      exact ⟨⟨j, by omega, e2⟩, e3⟩
theorem poolOrder_no (a0 : Int) (v : Value) (l : List POp) (w : World) (hv : IsOps w v l) (h : a0 < 1 ∨ 16 < a0 ∨ 120 < l.length) : Calls Try.prog 5 #[.int .i64 a0, v] w fun e w' => e = .returned (.bool true) ∧ Below w.heap.size w w' := by
  obtain ⟨a, c, rfl, _⟩ := hv
  have hal := Lib.hid (alive_true w)
  by_cases h1 : a0 < 1
  · clear h
    go_enter Try.func5, Try.ntmps5
    go_wp2_with fail
    refine hal.out.mono ?_
    rintro e w1 ⟨rfl, hb⟩
    replace hb := Lib.hid hb
    go_wp2
    go_ret
    exact ⟨rfl, hb.out⟩
  · by_cases h2 : 16 < a0
    · clear h
      go_enter Try.func5, Try.ntmps5
      go_wp2_with fail
      refine hal.out.mono ?_
      rintro e w1 ⟨rfl, hb⟩
      replace hb := Lib.hid hb
      go_wp2
      go_ret
      exact ⟨rfl, hb.out⟩
    · have h3 : (120 : Int) < ((l.length : Nat) : Int) := by omega
      clear h
      go_enter Try.func5, Try.ntmps5
      go_wp2_with fail
      refine hal.out.mono ?_
      rintro e w1 ⟨rfl, hb⟩
      replace hb := Lib.hid hb
      go_wp2
      go_ret
      exact ⟨rfl, hb.out⟩
set_option maxRecDepth 100000 in
set_option maxHeartbeats 3200000 in
theorem poolOrder_yes (cap : Nat) (a : Option Addr) (c : Nat) (l : List POp) (w : World) (hA : ∀ j (h : j < l.length), OpAt w a j l[j]) (h1 : 1 ≤ cap) (h2 : cap ≤ 16) (h3 : l.length ≤ 120) :
    Calls Try.prog 5 #[.int .i64 (cap : Int), .slice a l.length c] w fun e w' => e = .returned (.bool true) ∧ Below w.heap.size w w' := by
  have hal := Lib.hid (alive_true w)
  have hmm := @run_makeMap Try.prog
  have hmf : ∀ (fn : Fn) (first cap : Array Value) (w : World), (Instr.makeFunc fn first cap).run Try.prog w = .ok (.func fn first cap) w := fun _ _ _ _ => rfl
  have g1 : ¬ ((cap : Nat) : Int) < 1 := by omega
  have g2 : ¬ (16 : Int) < ((cap : Nat) : Int) := by omega
  have g3 : ¬ (120 : Int) < ((l.length : Nat) : Int) := by omega
  replace hA := Lib.hid hA
  go_enter Try.func5, Try.ntmps5
  go_wp2_with fail
  refine hal.out.mono ?_
  rintro e w1 ⟨rfl, hb1⟩
  replace hb1 := Lib.hid hb1
  obtain ⟨Z, hZ, hmk⟩ := mk40
  have c1 := or_start cap h1 h2 Z hZ w w1 hb1.out
  replace c1 := Lib.hid c1
  replace hZ := Lib.hid hZ
  go_wp2_with fail
  refine c1.out.mono ?_
  rintro e w2 ⟨pb, rfl, p2, hN2, hlo⟩
  replace p2 := Lib.hid p2
  replace hN2 := Lib.hid hN2
  clear c1
  go_wp2
  go_loopg [46] l.length (fun g i wr => ∃ (k : Nat) (t : St) (s : PS) (made : ByteArray → Int), g + k = l.length ∧ i = .int .i64 k ∧ Aside (Ov made t s ∧ s.ks.length ≤ cap ∧ s.ck ≤ k ∧ t.length ≤ 100 * k ∧ FrM made k ∧ TMap wr w2.heap.size k made ∧ LP (orDev (w1.heap.size + 1) w1.heap.size) (fun k => k = w2.heap.size) w.heap.size w wr pb cap t s))
  case atStart => exact ⟨0, [], PS.new, fun _ => 0, rfl, rfl, Ov.new, by simp [PS.new], by simp [PS.new], by simp, FrM.start, hN2.out, p2.out⟩
  case round =>
    obtain ⟨i, t, s, made, hi, rfl, hI⟩ := hrel
    obtain ⟨i1, i2, i3, i4, i7, i5, i6⟩ := hI.out
    by_cases hlt : i < l.length
    · obtain ⟨x, hx⟩ : ∃ x, x = l[i] := ⟨_, rfl⟩
      have hop := hA.out i hlt
      rw [← hx] at hop
      obtain ⟨x1, x2, x3, b3, o3, rfl, d0, d1, d2, d3⟩ := hop
      replace d0 := cell_more i6.was.1 d0
      replace d1 := cell_more i6.was.1 d1
      replace d2 := cell_more i6.was.1 d2
      replace d3 := cell_more i6.was.1 d3
      have hbl := World.block_lt_of_cell? wr _ d0
      obtain ⟨kd, pg, ls, bb⟩ := x
      replace hx := Lib.hid hx
      simp only at x1 x2 x3 d0 d1 d2 d3
      clear hI
      have hS := OrS.start (op := ⟨kd, pg, ls, bb⟩) i6 i5 rfl hlo
      have hB := Lib.hid ((i6.was.1).alloc i6.was.2 (.cells #[.int .i64 kd, .int .i64 pg, .int .i64 ls, .string bb] 48))
      obtain ⟨oc0, oc1, oc3, ocl⟩ := hS.cells
      simp only at oc0 oc1 oc3
      replace hS := Lib.hid hS
      replace i7 := Lib.hid i7
      clear i5 i6
      by_cases hp0 : pg < 0
      · clear i1
        go_wp2
        go_ret
        exact ⟨rfl, hB.out⟩
      by_cases hp1 : 40 ≤ pg
      · clear i1
        go_wp2
        go_ret
        exact ⟨rfl, hB.out⟩
      by_cases hk1 : kd = 1
      · subst hk1
        obtain ⟨t', s', bq, hq, hKv, hck⟩ := i1.get h1 pg (by omega) (by omega)
        have hlen' := pget_len (D := dvOr) (t := t) (cap := cap) pg hS.out.lp.ok.rise i2 h1
        have hlf := pget_left (E := orDev 0 0) (cap := cap) t s pg
        rw [hq] at hlen' hlf
        have hlf2 : t'.length ≤ 100 * (i + 1) := by have : 1000000 - t.length ≤ 1000000 - t'.length + 3 := hlf; omega
        simp only at hlen'
        have cG := hS.out.get hq x2 (by omega) (by omega) h1 (by omega)
        replace cG := Lib.hid cG
        replace hKv := Lib.hid hKv
        clear i1 hq hlf
        go_wp2_with fail
        refine cG.out.mono ?_
        rintro e w5 ⟨rfl, p5⟩
        clear cG oc0 oc1 oc3 ocl
        obtain ⟨n1, n2⟩ := p5.done (show i ≤ i + 1 by omega)
        replace n1 := Lib.hid n1
        replace n2 := Lib.hid n2
        go_wp2
        go_roundg (l.length - (i + 1))
        case rel => exact ⟨i + 1, t', s', made, by omega, by go_num, hKv.out, hlen', by omega, hlf2, i7.out.next, n1.out, n2.out⟩
        case measure => omega
      by_cases hk2 : kd = 2
      · subst hk2
        obtain ⟨m, rfl⟩ : ∃ m : Nat, pg = m := ⟨pg.toNat, by omega⟩
        have hz : (i : Int) / 256 = 0 := Int.ediv_eq_zero_of_lt (by omega) (by omega)
        have hcv := conv_or i m (by omega) (by omega) wr (.cells #[.int .i64 2, .int .i64 (m : Int), .int .i64 ls, .string bb] 48) (.int .u8 ((i : Int) / 256)) (by rw [hz])
        obtain ⟨nb, hnb⟩ : ∃ nb : ByteArray, nb = ⟨#[UInt8.ofNat i, 0, UInt8.ofNat m, 98]⟩ := ⟨_, rfl⟩
        rw [← hnb] at hcv
        obtain ⟨hm0, hFr⟩ := i7.out.set (by omega) (b := nb) (by rw [hnb]; rfl) (by rw [hnb]; exact Nat.le_refl 4) ((i : Int) + 1)
        have hsz : nb.size ≤ maxLen := by rw [hnb]; show 4 ≤ maxLen; unfold maxLen; omega
        obtain ⟨t', s', hq, hKv, hck⟩ := i1.set h1 m nb ((i : Int) + 1) hm0 (by omega)
        have hlen' := pset_len (D := dvOr) (t := t) (cap := cap) m nb ((i : Int) + 1) hS.out.lp.ok.rise i2 h1
        have hlf := pset_left (E := orDev 0 0) (cap := cap) t s m nb ((i : Int) + 1)
        rw [hq] at hlen' hlf
        have hlf2 : t'.length ≤ 100 * (i + 1) := by have : 1000000 - t.length ≤ 1000000 - t'.length + 2 := hlf; omega
        simp only at hlen'
        have hS2 := hS.out.alloc (.cells #[.int .u8 i, .int .u8 ((i : Int) / 256), .int .u8 m, .int .u8 98] 5)
        obtain ⟨f0, f1, f3, fl⟩ := hS2.cells
        simp only at f0 f1 f3
        replace hS2 := Lib.hid hS2
        replace hKv := Lib.hid hKv
        replace hFr := Lib.hid hFr
        replace hnb := Lib.hid hnb
        replace hz := Lib.hid hz
        clear i1 hlf hm0
        go_wp2_with (at_mapUpdate; refine wpList_tmap_store rfl _ _ _ rfl rfl hS2.out.map (by unfold maxLen; omega) nb rfl hsz ((i : Int) + 1) rfl (by go_wf) ?_; intro w6 hM6 hg6; have p6 := hS2.out.store hM6 hg6; have f1' := p6.cells.2.1; have fl' := p6.cells.2.2.2; simp only at f1'; replace p6 := Lib.hid p6; clear f0 f1 f3 fl oc0 oc1 oc3 ocl hM6 hg6 hS2 hS hcv)
        have cG := p6.out.set hq x2 (by omega) (by omega) h1 (by omega)
        replace cG := Lib.hid cG
        replace hq := Lib.hid hq
        clear p6
        go_wp2_with fail
        refine cG.out.mono ?_
        rintro e w7 ⟨rfl, p7⟩
        clear cG
        obtain ⟨n1, n2⟩ := p7.done (show i + 1 ≤ i + 1 by omega)
        replace n1 := Lib.hid n1
        replace n2 := Lib.hid n2
        go_wp2
        go_roundg (l.length - (i + 1))
        case rel => exact ⟨i + 1, t', s', _, by omega, by go_num, hKv.out, hlen', by omega, hlf2, hFr.out, n1.out, n2.out⟩
        case measure => omega
      by_cases hk3 : kd = 3
      · subst hk3
        obtain ⟨t', s', hq, hKv, hck⟩ := i1.flush pg
        have hlen' : s'.ks.length ≤ cap := by
          have := (pflush_ks dvOr t s pg).1
          rw [hq] at this
          simp only at this
          rw [this]; exact i2
        have hlf := pflush_left (E := orDev 0 0) t s pg
        rw [hq] at hlf
        have hlf2 : t'.length ≤ 100 * (i + 1) := by have : 1000000 - t.length ≤ 1000000 - t'.length + 2 := hlf; omega
        have cG := hS.out.flush hq x2 (by omega)
        replace cG := Lib.hid cG
        replace hKv := Lib.hid hKv
        clear i1 hq hlf
        go_wp2_with fail
        refine cG.out.mono ?_
        rintro e w5 ⟨rfl, p5⟩
        clear cG oc0 oc1 oc3 ocl
        obtain ⟨n1, n2⟩ := p5.done (show i ≤ i + 1 by omega)
        replace n1 := Lib.hid n1
        replace n2 := Lib.hid n2
        go_wp2
        go_roundg (l.length - (i + 1))
        case rel => exact ⟨i + 1, t', s', made, by omega, by go_num, hKv.out, hlen', by omega, hlf2, i7.out.next, n1.out, n2.out⟩
        case measure => omega
      have hc1 : (1 == kd) = false := by rw [beq_eq_false_iff_ne]; omega
      have hc2 : (2 == kd) = false := by rw [beq_eq_false_iff_ne]; omega
      have hc3 : (3 == kd) = false := by rw [beq_eq_false_iff_ne]; omega
      have hc1' : (kd == 1) = false := by rw [beq_eq_false_iff_ne]; omega
      have hc2' : (kd == 2) = false := by rw [beq_eq_false_iff_ne]; omega
      have hc3' : (kd == 3) = false := by rw [beq_eq_false_iff_ne]; omega
      have p5 := hS.out
      replace i1 := Lib.hid i1
      obtain ⟨n1, n2⟩ := p5.done (show i ≤ i + 1 by omega)
      replace n1 := Lib.hid n1
      replace n2 := Lib.hid n2
      go_wp2
      go_roundg (l.length - (i + 1))
      case rel => exact ⟨i + 1, t, s, made, by omega, by go_num, i1.out, i2, by omega, by omega, i7.out.next, n1.out, n2.out⟩
      case measure => omega
    · obtain rfl : i = l.length := by omega
      obtain ⟨t', s', hq, hOv, hdn⟩ := i1.all
      have cG := lAll hq i6 (by show 2 * s.ks.length ≤ 1000000 - t.length; omega)
      replace cG := Lib.hid cG
      replace i5 := Lib.hid i5
      have hlf := pallOf_left dvOr (orDev 0 0) s.ks t s
      rw [show pallOf dvOr s.ks t s = (t', s', 0) from hq] at hlf
      have hlf2 : t'.length ≤ 100 * (l.length + 1) := by have : 1000000 - t.length ≤ 1000000 - t'.length + 2 * s.ks.length := hlf; omega
      clear hI i1 i6 hq hlf
      go_wp2_with fail
      refine cG.out.mono ?_
      rintro e w5 ⟨rfl, p5, hc5⟩
      have n5 := i5.out.kept hc5 (fun e => e rfl)
      obtain ⟨a7, c7, s0, hst, hrl⟩ := p5.steps
      replace p5 := Lib.hid p5
      replace n5 := Lib.hid n5
      replace hst := Lib.hid hst
      replace i7 := Lib.hid i7
      clear cG i5 hc5
      go_wp2
      go_loopg [104, 11] t'.length (fun g i d wr => ∃ k : Nat, g + k = t'.length ∧ i = .int .i64 k ∧ d = .int .i64 (durOf 0 (t'.take k)) ∧ Aside (TMap wr w2.heap.size l.length made ∧ StAt wr a7 t' ∧ LP (orDev (w1.heap.size + 1) w1.heap.size) (fun k => k = w2.heap.size) w.heap.size w wr pb cap t' s'))
      case atStart => exact ⟨0, rfl, rfl, rfl, n5.out, hst.out, p5.out⟩
      case round =>
        obtain ⟨k, hk, rfl, rfl, hI⟩ := hrel
        obtain ⟨j1, j2, j3⟩ := hI.out
        clear hI hst p5 n5 s0 hrl
        by_cases hlk : k < t'.length
        · obtain ⟨b3, o3, rfl, e0, e1, e2⟩ := j2 k hlk
          have hdk := durOf_take (d := 0) k hlk
          have hbg := behind_get hOv.steps k hlk
          obtain ⟨q, hq⟩ : ∃ q, q = t'[k] := ⟨_, rfl⟩
          rw [← hq] at e0 e1 e2 hdk hbg
          obtain ⟨kd, n, bb⟩ := q
          simp only at e0 e1 e2 hdk hbg
          have hbl := World.block_lt_of_cell? wr _ e0
          replace hq := Lib.hid hq
          have jj : Hid (∀ x : Obj, TMap (wr.alloc x) w2.heap.size l.length made ∧ StAt (wr.alloc x) (some ⟨b3, o3, none⟩) t' ∧ LP (orDev (w1.heap.size + 1) w1.heap.size) (fun k => k = w2.heap.size) w.heap.size w (wr.alloc x) pb cap t' s') := Lib.hid fun x => by
            have hb : Below wr.heap.size wr (wr.alloc x) := (Below.refl _ _).alloc (Nat.le_refl _) _
            refine ⟨j1.kept (S := fun _ => False) (Chg.of_below hb) id, fun j hj => ?_, j3.more hb⟩
            obtain ⟨b4, o4, e4, z0, z1, z2⟩ := j2 j hj
            exact ⟨b4, o4, e4, cell_more hb z0, cell_more hb z1, cell_more hb z2⟩
          by_cases q1 : kd = 108
          · subst q1
            rw [if_pos rfl] at hdk
            rw [show ((108 : UInt8).toNat : Int) = 108 from rfl] at e0
            replace hdk := Lib.hid hdk
            clear j1 j2 j3 hbg
            go_wp2
            go_roundg (t'.length - (k + 1))
            case rel => exact ⟨k + 1, by omega, by go_num, by rw [hdk.out], jj.out _⟩
            case measure => omega
          · rw [if_neg q1] at hdk
            replace hdk := Lib.hid hdk
            have q1' : ((kd.toNat : Int) == 108) = false := by
              rw [beq_eq_false_iff_ne]
              intro e
              exact q1 (UInt8.toNat_inj.1 (by show kd.toNat = 108; omega))
            by_cases q2 : kd = 119
            · subst q2
              obtain ⟨y1, y2⟩ := hbg rfl
              have hlook := (jj.out (.cells #[.int .u8 119, .int .i64 n, .string bb] 53)).1.look (z := bb) (Nat.le_trans (i7.out bb y1).2 (by unfold maxLen; omega))
              rw [show ((119 : UInt8).toNat : Int) = 119 from rfl] at e0 q1'
              obtain ⟨y, hy⟩ : ∃ y, y = made bb := ⟨_, rfl⟩
              rw [← hy] at y1 y2 hlook
              replace hy := Lib.hid hy
              have y1' : (y == 0) = false := by rw [beq_eq_false_iff_ne]; exact y1
              have y2' : ¬ durOf 0 (t'.take k) < y := by omega
              generalize hdd : durOf 0 (t'.take k) = dd at *
              clear j1 j2 j3 hbg
              go_wp2
              go_roundg (t'.length - (k + 1))
              case rel => exact ⟨k + 1, by omega, by go_num, by rw [hdk.out], jj.out _⟩
              case measure => omega
            · have q2' : ((kd.toNat : Int) == 119) = false := by
                rw [beq_eq_false_iff_ne]
                intro e
                exact q2 (UInt8.toNat_inj.1 (by show kd.toNat = 119; omega))
              clear j1 j2 j3 hbg
              go_wp2
              go_roundg (t'.length - (k + 1))
              case rel => exact ⟨k + 1, by omega, by go_num, by rw [hdk.out], jj.out _⟩
              case measure => omega
        · have cD := lDirty hdn j3
          replace cD := Lib.hid cD
          clear j1 j2 j3
          go_wp2_with fail
          refine cD.out.mono ?_
          rintro e w6 ⟨a6, c6, rfl, _, p6, _⟩
          have hw := Lib.hid p6.was.1
          clear cD p6
          go_wp2
          go_ret
          exact ⟨rfl, hw.out⟩
theorem poolOrder_walk (a0 : Int) (v : Value) (l : List POp) (w : World) (_w0 : (Lit.int .i64 a0).wf = true) (hv : IsOps w v l) : Calls Try.prog 5 #[.int .i64 a0, v] w fun e w' => e = .returned (.bool true) ∧ Below w.heap.size w w' := by
  by_cases h : a0 < 1 ∨ 16 < a0 ∨ 120 < l.length
  · exact poolOrder_no a0 v l w hv h
  · obtain ⟨cap, rfl⟩ : ∃ c : Nat, a0 = c := ⟨a0.toNat, by omega⟩
    obtain ⟨a, c, rfl, hA⟩ := hv
    exact poolOrder_yes cap a c l w hA (by omega) (by omega) (by omega)
end Go.Proofs.Ytlbeaoglkhfdcaa
