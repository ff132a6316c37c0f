/- Append of a log: memory of an append onto a clipped row. No condition. -/
import Derived.Test.YtofejnhnnmnfpaaDoorWPs
import Derived.Test.YtofejnhnnmnfpaaDoorRecH
import Derived.Test.YtofejnhnnmnfpaaDoorRAll
import Derived.Deep.RegionLaw
import Derived.Deep.Cut
import Derived.Deep.RegionHeld3
namespace Go.Proofs.YtofejnhnnmnfpaaDoor
set_option maxRecDepth 100000
open Go.RowKit

theorem infoStr : (Tryd.prog.info? 9).map (fun i => (i.zero, i.size, i.bytes)) = some (some (Value.string ByteArray.empty), 1, 16) := by kernel_rfl
theorem infoRec : (Tryd.prog.info? 37).map (fun i => (i.zero, i.size, i.bytes)) = some (some Rc.zrec, 14, 200) := by kernel_rfl
theorem RdAt.new1W {w : World} {b' : Nat} {u : Value} (t : TypeId) (hb : b' = w.heap.size) : RdAt (w.alloc (.cells #[u] t)) (.slice (some ⟨b', 0, none⟩) 1 1) 1 [u] := by
  subst hb
  refine ⟨_, _, rfl, fun j x hj => ⟨_, _, rfl, ?_⟩⟩
  match j, hj with
  | 0, hj => cases hj; exact cell_of (heap_alloc_new w _) rfl
  | n + 1, hj => simp at hj
theorem grow_ownW {w wr w1 : World} {v v' : Value} {n m : Nat} {xs ys : List Value} {o : Obj} {e : TypeId} {sz : Nat} (h : wr.ownsRow w.heap.size e sz v n xs) (hb : Below w.heap.size w wr) (hp : AppPost (wr.alloc o) w.heap.size e sz v n xs m ys v' w1) : Below w.heap.size w w1 :=
  (hb.alloc hb.size o).grown hp.2.1 (by have := hb.size; simp; omega) (fun k e => (h.lt k e).1)
/-- An append onto a row that has no room: a new row. -/
theorem run_append_clip {P : Program} (w : World) (base : Nat) (t ty e : TypeId) (i : TypeInfo) (z : Value) (size bytes : Nat) (ht : P.underlying t = some (.slice e)) (hi : P.info? e = some i) (hz : i.zero = some z)
    (hsize : i.size = size) (hby : i.bytes = bytes) (hzs : z.cells.size = size) (hsz : 0 < size)
    (a0 : Option Addr) (c0 : Nat) (n : Nat) (xs : List Value) (hown : w.ownsRow base e size (.slice a0 n c0) n xs)
    (vx : Value) (m : Nat) (news : List Value) (hm : 0 < m) (hl : news.length = m * size) (hx : RdAt w vx m news)
    (h63 : n + m ≤ maxLen) (hbytes : (n + m) * bytes ≤ 140737488355328) :
    ∃ v' w', (Builtin.append_ #[t, t] ty #[.slice a0 n n, vx]).run P w = .ok v' w' ∧ w'.ownsRow w.heap.size e size v' (n + m) (xs ++ news) ∧ w.grownBy w' none := by
  subst hsize
  subst hby
  have hsmall : n + m ≤ 9223372036854775807 := by simp only [maxLen] at h63; omega
  have hlen : (xs ++ news).length = (n + m) * i.size := by rw [List.length_append, hown.1, hl, Nat.add_mul]
  obtain ⟨a, c, rfl, hnews⟩ := hx.news (fun e => by
    rw [e] at hl
    have h1 := Nat.mul_pos hm hsz
    rw [← hl] at h1
    exact Nat.lt_irrefl _ h1)
  have grown : ∀ (old : Nat), old < n + m → 
      (w.drew.alloc (.cells (xs.toArray ++ news.toArray ++ Builtin.zeroCells z.cells (grownCap w (n + m) old e - (n + m))) e)).ownsRow w.heap.size e i.size
        (.slice (some ⟨w.heap.size, 0, none⟩) (n + m) (grownCap w (n + m) old e)) (n + m) (xs ++ news) ∧
      w.grownBy (w.drew.alloc (.cells (xs.toArray ++ news.toArray ++ Builtin.zeroCells z.cells (grownCap w (n + m) old e - (n + m))) e)) none := by
    intro old ho
    have hge := grownCap_ge w (n + m) old e
    have hcm : grownCap w (n + m) old e ≤ maxLen := grownCap_le_maxLen w (n + m) old e h63
    refine ⟨⟨hlen, .inr ⟨w.heap.size, _, _, rfl, Nat.le_refl _, heap_alloc_new w.drew _, hge, hcm, ?_, ?_⟩⟩, ⟨rfl, rfl, rfl, by simp, fun k hk _ => Below.heap_alloc w.drew _ k hk⟩⟩
    · simp only [Array.size_append, List.size_toArray, size_zeroCells, hzs, hown.1, hl, ← Nat.add_mul]
      congr 1
      omega
    · simp only [Array.toList_append, List.append_assoc]
      rw [← List.append_assoc, ← hlen]
      exact List.take_left
  rcases hown.2 with ⟨e0, rfl⟩ | ⟨g, cap, cur, e0, hbg, hg, hnc, hcm, hcs, htake⟩
  · simp only [Value.slice.injEq] at e0
    obtain ⟨rfl, _, rfl⟩ := e0
    have hx : xs = [] := List.eq_nil_of_length_eq_zero (by simpa using hown.1)
    subst hx
    have hr := run_append_nil (P := P) w t ty e i z ht hi hz a m c news hl hnews (by omega) (by omega) (by have hb := hbytes; simp only [Nat.zero_add] at hb; omega)
    have hgr := grown 0 (by omega)
    simp only [Nat.zero_add, List.nil_append, Array.empty_append] at hgr ⊢
    exact ⟨_, _, hr, by simpa using hgr.1, hgr.2⟩
  · simp only [Value.slice.injEq] at e0
    obtain ⟨rfl, _, rfl⟩ := e0
    have holds : ∀ j u, xs[j]? = some u → w.cell? ((⟨g, 0, none⟩ : Addr).add j) = some u := hown.cells (g := g) rfl
    have hr := run_append_grow (P := P) w t ty e i z ht hi hz ⟨g, 0, none⟩ n n xs hown.1 holds a m c news hl hnews (by omega) (by omega) (growslice_fits (by omega) hbytes)
    have hgr := grown n (by omega)
    exact ⟨_, _, hr, hgr.1, hgr.2⟩
section
variable {P : Program} {ops : Array Oper} {o : Oper} {a : Act} {w : World} {Q : Exit → Act → World → Prop} {rest : List Oper}
theorem step_append_clip {K : Act → World → Prop} {E : Prop} (hg : o.guard = none) (s x : Operand) (t : TypeId) (hop : o.op = Op.call { callee := Callee.builtin Builtin.append, args := #[s, x], argTypes := #[t, t] })
    (base : Nat) (e : TypeId) (i : TypeInfo) (z : Value) (size bytes : Nat) (ht : P.underlying t = some (.slice e)) (hi : P.info? e = some i) (hz : i.zero = some z)
    (hsize : i.size = size) (hby : i.bytes = bytes) (hzs : z.cells.size = size) (hsz : 0 < size)
    (a0 : Option Addr) (c0 : Nat) (n : Nat) (xs : List Value) (hs : a.eval s = .slice a0 n n) (hown : w.ownsRow base e size (.slice a0 n c0) n xs)
    (vx : Value) (m : Nat) (news : List Value) (hx : a.eval x = vx) (hm : 0 < m) (hl : news.length = m * size) (hrd : RdAt w vx m news)
    (h63 : n + m ≤ maxLen) (hbytes : (n + m) * bytes ≤ 140737488355328)
    (hK : ∀ v' w', w'.ownsRow w.heap.size e size v' (n + m) (xs ++ news) → w.grownBy w' none → K (a.put o.dst v') w') :
    if Region.wanted o (yielded ops a.tmps) = true then Oper.wp P o a w K Q else E := by
  have hw : Region.wanted o (yielded ops a.tmps) = true := by simp [Region.wanted, hg]
  rw [if_pos hw]
  obtain ⟨v', w', hrun, h1, h2⟩ := run_append_clip (P := P) w base t o.type e i z size bytes ht hi hz hsize hby hzs hsz a0 c0 n xs hown vx m news hm hl hrd h63 hbytes
  unfold Oper.wp
  simp [execOp, hop, resolve, invoke, builtin, hs, hx, hrun, Result.andThen]
  exact hK v' w' h1 h2
end
section
variable {w : World} {B G : Nat} {T : Nat → Prop} {L : Lg} {vl vw : Value} {ps : List Rp}
theorem LX.wait_at (h : LX w B G T L vl vw ps) {aw : Option Addr} {cw : Nat} (e : vw = .slice aw L.wait.length cw) : Fr.TAt w aw L.wait := by
  obtain ⟨a, c, e', ht⟩ := Fr.TAt.own h.rw_
  rw [e] at e'
  cases e'
  exact ht
/-- The cells of a record's variable. -/
theorem RdAt.newRec {w : World} {b : Nat} (p : Rp) (t : TypeId) (hb : b = w.heap.size) (n : Nat) : RdAt (w.alloc (.cells #[.int .i64 p.r.kind, .int .i64 p.r.tx, .int .i64 p.r.prev, .int .i64 p.r.next, .string (mk p.r.key), .bool p.r.had, .string (mk p.r.old.key), .string (mk p.r.old.val), .int .i64 p.r.old.blob, .int .i64 p.r.old.size, p.vp, p.vt, p.vx, p.vd] t)) (.slice (some ⟨b, 0, none⟩) n n) n p.cells := by
  subst hb
  refine ⟨_, _, rfl, fun j u hj => ⟨_, 0, rfl, ?_⟩⟩
  rw [Nat.zero_add]
  refine cell_of (heap_alloc_new w _) ?_
  rw [← Array.getElem?_toList]
  exact hj
theorem Rp.cells_len (p : Rp) : p.cells.length = 1 * 14 := rfl
theorem Rp.cells_one {w : World} {T : Nat → Prop} (p : Rp) (h : RecK w T p) : ∀ u ∈ p.cells, u.oneCell' = true := by
  obtain ⟨a1, k1, a2, k2, a3, k3, a4, k4, e1, e2, e3, e4, _⟩ := Rc.recAt_form h.at_
  intro u hu
  unfold Rp.cells at hu
  rw [e1, e2, e3, e4] at hu
  simp only [List.mem_cons, List.not_mem_nil, or_false] at hu
  rcases hu with rfl | rfl | rfl | rfl | rfl | rfl | rfl | rfl | rfl | rfl | rfl | rfl | rfl | rfl <;> rfl
theorem hold_app {wE w7 : World} {o : Obj} {base G : Nat} {e : TypeId} {size : Nat} {v v7 : Value} {n m : Nat} {xs news : List Value} (hp : AppPost (wE.alloc o).drew base e size v n xs m news v7 w7) (hG : G < wE.heap.size) (hn : ∀ k, v.ownBlock = some k → k ≠ G) : w7.heap[G]? = wE.heap[G]? :=
  (hp.chg.block G (by simp; omega) (fun h => hn G h rfl)).trans (Below.heap_alloc wE o G hG)
/-- Behind the store of the longer row. -/
theorem app_end {w wE w7 : World} {o : Obj} {B G lo hi : Nat} {T : Nat → Prop} {L : Lg} {wl : List (List UInt8)} {vl v8 v7 : Value} {ps : List Rp} {p : Rp} {y : Rc.Rec} (hpr : p.r = y)
    (HE : LX wE B G (fun k => T k ∨ v8.ownBlock = some k) { L with wait := wl } vl v8 ps) (hp : AppPost (wE.alloc o).drew 0 37 14 vl L.l.length (rpcells ps) 1 p.cells v7 w7) (hK : RecK wE (fun k => lo ≤ k ∧ k < hi) p)
    (hlo : w.heap.size ≤ lo) (hhi : hi ≤ wE.heap.size) (hT : ∀ k, T k → k < w.heap.size) (h8 : ∀ k, v8.ownBlock = some k → w.heap.size ≤ k ∧ k < lo) (hc : Chg T w wE) (hsz : w.heap.size ≤ wE.heap.size) :
    ∃ T', LAt (w7.setCell ⟨G, 4, none⟩ v7) B G T' { L with l := L.l ++ [y], wait := wl } ∧ Chg T w (w7.setCell ⟨G, 4, none⟩ v7) ∧ ∀ k, T' k → T k ∨ w.heap.size ≤ k := by
  have hcX : Chg (fun _ => False) wE (wE.alloc o).drew := ((Chg.refl _ wE).alloc o).drew
  have hX := HE.kept hcX (fun _ _ => id)
  have hKX := hK.chg hcX (fun _ _ => id)
  have hz : (wE.alloc o).drew.heap.size = wE.heap.size + 1 := by simp
  obtain ⟨H, hcP⟩ := hX.push hp hKX (fun k hk => ⟨fun e => by
    rcases e with e | e
    · have := hT k e; omega
    · have := h8 k e; omega, by omega⟩)
  subst hpr
  refine ⟨_, ⟨_, _, _, H⟩, (hc.trans (hcX.mono (fun _ _ h => h.elim)) (fun _ _ h => h)).trans hcP (fun k hk e => ?_), fun k hk => ?_⟩
  · rcases e with e | e
    · exact e
    · have := h8 k e; omega
  · rcases hk with (e | e) | e | e
    · exact .inl e
    · have := h8 k e; omega
    · omega
    · omega
/-- What is read next to Count. -/
theorem ap_more {w0 w w' : World} {G secs end_ : Nat} {aw : Option Addr} {wl : List (List UInt8)}
    (h : w.cell? ⟨G, 2, none⟩ = some (.int .i64 (secs : Int)) ∧ w.cell? ⟨G, 6, none⟩ = some (.int .i64 (end_ : Int)) ∧ Hid (Fr.TAt w aw wl ∧ Below w0.heap.size w0 w)) (hb : Below w.heap.size w w') :
    w'.cell? ⟨G, 2, none⟩ = some (.int .i64 (secs : Int)) ∧ w'.cell? ⟨G, 6, none⟩ = some (.int .i64 (end_ : Int)) ∧ Hid (Fr.TAt w' aw wl ∧ Below w0.heap.size w0 w') :=
  ⟨wl_cell hb h.1, wl_cell hb h.2.1, Lib.hid ⟨h.2.2.out.1.more hb, h.2.2.out.2.trans (hb.mono h.2.2.out.2.size)⟩⟩
theorem ap_count {w0 w : World} {G secs end_ : Nat} {aw : Option Addr} {n cw x : Nat} {wl : List (List UInt8)} (hn : n = wl.length) (hx : x = lcnt wl) (hl : (Fr.stream wl).length ≤ 1000000)
    (h : w.cell? ⟨G, 2, none⟩ = some (.int .i64 (secs : Int)) ∧ w.cell? ⟨G, 6, none⟩ = some (.int .i64 (end_ : Int)) ∧ Hid (Fr.TAt w aw wl ∧ Below w0.heap.size w0 w)) :
    Calls Tryd.prog 33 #[.slice aw n cw] w fun e w' => e = .returned (.int .i64 (x : Int)) ∧ (w'.cell? ⟨G, 2, none⟩ = some (.int .i64 (secs : Int)) ∧ w'.cell? ⟨G, 6, none⟩ = some (.int .i64 (end_ : Int)) ∧ Hid (Fr.TAt w' aw wl ∧ Below w0.heap.size w0 w')) := by
  subst hn
  exact (Fr.count_any aw cw wl w (by omega) h.2.2.out.1).mono fun _ _ ⟨he, hb⟩ => ⟨by rw [he, hx]; rfl, ap_more h hb⟩
/-- What Append leaves. -/
def AppP (w : World) (B G : Nat) (T : Nat → Prop) (L' : Lg) (n x : Int) (e : Ending) (w' : World) : Prop :=
  e = .returned (.tuple #[.int .i64 n, .int .i64 x]) ∧ ∃ T', LAt w' B G T' L' ∧ Chg T w w' ∧ ∀ k, T' k → T k ∨ w.heap.size ≤ k
set_option maxHeartbeats 6400000 in
theorem xAppend (v vp vt vx vd : Value) (r : Rc.Rec) (hT : Rc.Tab w) (hr : Rc.RecAt w v vp vt vx vd r) (h : LX w B G T L vl vw ps) (h1 : L.l.length ≤ 100000) (h2 : L.secs ≤ 4000) (h3 : L.end_ ≤ 4000) (h4 : (Fr.stream L.wait).length ≤ 400000) {L' : Lg} {n x : Int} (q : lapp L r = (L', n, x)) :
    Calls Tryd.prog 12 #[.pointer (some ⟨G, 0, none⟩), v] w (AppP w B G T L' n x) := by
  obtain ⟨ii, hii, hz0, hz1, hz2⟩ := info_parts infoStr
  obtain ⟨ir, hir, hr0, hr1, hr2⟩ := info_parts infoRec
  obtain ⟨al, cl, aw, cw, e1, e2, c0, c1, c2, c3, c4, c5, c6, hf, hG⟩ := h.cells
  have hb0 : ∀ o, Below w.heap.size w (w.alloc o) := fun o => (Below.refl _ _).alloc (Nat.le_refl _) o
  have hP := fun o => Rc.put_any v vp vt vx vd r (w.alloc o) (hT.more (hb0 o)) (hr.more (hb0 o))
  obtain ⟨a1, k1, a2, k2, a3, k3, a4, k4, _, _, _, _, hv⟩ := Rc.recAt_form hr
  cases hok : Rc.recOk r with
  | false =>
    rw [lapp, hok, if_pos rfl] at q
    cases q
    simp only [hok] at hP
    subst hv
    replace hP := Lib.hid hP
    go_enter Tryd.func12, Tryd.ntmps12
    go_wp2_with fail
    refine (hP.out _).mono ?_
    rintro e w1 ⟨rfl, b1⟩
    have b1 := Lib.hid ((hb0 _).trans (b1.mono (hb0 _).size))
    go_wp2
    go_ret2
    exact ⟨rfl, T, ⟨vl, vw, ps, h.more b1.out⟩, Chg.of_below b1.out, fun k hk => .inl hk⟩
  | true =>
    simp only [hok, if_true] at hP
    subst hv
    obtain ⟨bs, hbs⟩ : ∃ bs, bs = Rc.enc r := ⟨_, rfl⟩
    rw [← hbs] at hP
    replace hP := Lib.hid hP
    replace h := Lib.hid h
    replace q := Lib.hid q
    replace hr := Lib.hid hr
    replace hT := Lib.hid hT
    replace hbs := Lib.hid hbs
    have hok0 := Lib.hid hok
    clear c0 c1 c2 c3 c4 c5 c6 hf e1 hok
    go_enter Tryd.func12, Tryd.ntmps12
    go_upto_region 3 with (fail)
    go_cut [1, 3, 6, 7] from 11 (fun _ _ s6 s7 wr => s6 = .string (mk bs) ∧ s7 = .bool true ∧ Aside (Below w.heap.size w wr))
    case first =>
      go_wp2_with fail
      refine (hP.out _).mono ?_
      rintro e w1 ⟨rfl, b1⟩
      have b1 := Lib.hid ((hb0 _).trans (b1.mono (hb0 _).size))
      go_wp2
      go_meet
      case rel => exact ⟨rfl, rfl, b1.out⟩
    case rest =>
      rename World => wA
      obtain ⟨rfl, rfl, hA⟩ := hcut
      have b1 := Lib.hid hA.out
      clear hA hP hb0
      have H1 := h.out.more b1.out
      obtain ⟨al', cl', aw', cw', e1', e2', c0, c1, c2, c3, c4, c5, c6, hf, hG'⟩ := H1.cells
      rw [e2] at e2'
      cases e2'
      have hw1 : wA.ownsRow 0 9 1 (.slice aw L.wait.length cw) L.wait.length (Fr.scells L.wait) := e2 ▸ H1.rw_
      have hcw : L.wait.length ≤ cw := by
        rcases hw1.2 with ⟨e, h0⟩ | ⟨g, cap, cur, e, _, _, hc, _⟩
        · simp only [Value.slice.injEq] at e; omega
        · simp only [Value.slice.injEq] at e; omega
      obtain ⟨m, hm⟩ : ∃ m, m = L.wait.length := ⟨_, rfl⟩
      have hml : m ≤ 400000 := by have := Fr.stream_two L.wait; omega
      rw [← hm] at c5 hw1 hcw
      have k0 : (0 : Int) ≤ m := by omega
      have k1 : (m : Int) ≤ cw := by omega
      have hsz0 := b1.out.size
      replace H1 := Lib.hid H1
      replace hw1 := Lib.hid hw1
      replace hm := Lib.hid hm
      have C2 := Lib.hid (And.intro c2 (And.intro c6 (And.intro c4 hf)))
      clear c0 c1 c2 c3 c4 c6 e1' hf e2
      go_upto_region 6 with (fail)
      go_cut [8] from 11 (fun s8 wr => ∃ a8 c8, s8 = .slice a8 (m + 1) c8 ∧ Aside (wr.ownsRow wA.heap.size 9 1 (.slice a8 (m + 1) c8) (m + 1) (Fr.scells (L.wait ++ [bs])) ∧ Below wA.heap.size wA wr))
      case first =>
        go_region_law (refine step_append_clip rfl (.tmp 34) (.tmp 36) 56 rfl 0 9 ii (.string ByteArray.empty) 1 16 Tryd.underlying56 hii hz0 hz1 hz2 rfl (by decide) aw cw m (Fr.scells L.wait) (by simp [Act.eval, Act.put]) (hw1.out.drew.alloc _) (.slice (some ⟨wA.heap.size, 0, none⟩) 1 1) 1 [.string (mk bs)] (by simp [Act.eval, Act.put]) (by decide) rfl (RdAt.new1W _ rfl) (by unfold maxLen; omega) (by omega) ?_; intro v2 w2 ho2 hg2)
        all_goals
          obtain ⟨a8, m8, c8, rfl, hm8⟩ := own_form ho2
          subst hm8
          have hb2 : Below wA.heap.size wA w2 := (((Below.refl wA.heap.size wA).alloc (Nat.le_refl _) _).drew).grown hg2 (by simp) (fun k e => by cases e)
          have ho3 : w2.ownsRow wA.heap.size 9 1 (.slice a8 (m + 1) c8) (m + 1) (Fr.scells (L.wait ++ [bs])) := by rw [Fr.scells_append]; exact Rc.row_base ho2 (by simp)
          replace hb2 := Lib.hid hb2
          replace ho3 := Lib.hid ho3
          clear ho2 hg2
          go_wp2
          go_meet
          case rel => exact ⟨a8, c8, rfl, ho3.out, hb2.out⟩
      case rest =>
        rename World => wB
        obtain ⟨a8, c8, rfl, hA⟩ := hcut
        obtain ⟨ho8, hb8⟩ := hA.out
        clear hA
        obtain ⟨c2, c6, c4, hf⟩ := C2.out
        have q2 := wl_cell hb8 c2
        have q6 := wl_cell hb8 c6
        have hlenW : m + 1 = (L.wait ++ [bs]).length := by rw [List.length_append, ← hm.out]; rfl
        have hTA : Fr.TAt wB a8 (L.wait ++ [bs]) := by
          obtain ⟨a', c', e', ht⟩ := Fr.TAt.own ho8
          simp only [Value.slice.injEq] at e'
          obtain ⟨rfl, _, rfl⟩ := e'
          exact ht
        have hst : (Fr.stream (L.wait ++ [bs])).length ≤ 1000000 := by
          rw [Fr.stream_snoc, List.length_append, List.length_append, Fr.be_length, hbs.out]
          have := enc_fit ((Rc.recOk_iff r).1 hok0.out)
          omega
        obtain ⟨x8, hx8⟩ : ∃ x8, x8 = lcnt (L.wait ++ [bs]) := ⟨_, rfl⟩
        have hx8l : x8 ≤ 20000 := by
          rw [hx8]
          unfold lcnt Fr.bytesOf
          split
          · omega
          · simp
        have S0 : wB.cell? ⟨G, 2, none⟩ = some (.int .i64 (L.secs : Int)) ∧ wB.cell? ⟨G, 6, none⟩ = some (.int .i64 (L.end_ : Int)) ∧ Hid (Fr.TAt wB a8 (L.wait ++ [bs]) ∧ Below wB.heap.size wB wB) := ⟨q2, q6, Lib.hid ⟨hTA, Below.refl _ _⟩⟩
        have s1 : IntKind.i64.wrap ((L.secs : Int) - L.end_) = (L.secs : Int) - L.end_ := IntWalk.i64_in _ (by omega)
        have b8 := Lib.hid (b1.out.trans (hb8.mono b1.out.size))
        have H8 := Lib.hid (H1.out.more hb8)
        have hv8 := Lib.hid (fun k hk => (ho8.lt k hk))
        have hGB : G < wB.heap.size := Nat.lt_of_lt_of_le hG' hb8.size
        have hszB := hb8.size
        replace ho8 := Lib.hid ho8
        replace hlenW := Lib.hid hlenW
        replace hx8 := Lib.hid hx8
        clear c2 c6 c4 hf C2 c5 k1 hb8 q2 q6 hTA
        by_cases hc : (L.secs : Int) - L.end_ < x8
        · have hq : (L, (0 : Int), (7 : Int)) = (L', n, x) := by
            have := q.out
            rw [lapp, hok0.out, if_neg (by decide), ← hbs.out, ← hx8.out, if_pos hc] at this
            exact this
          cases hq
          clear q
          go_wp2_with fail
          go_region_held3 (fun w' => w'.cell? ⟨G, 2, none⟩ = some (.int .i64 (L.secs : Int)) ∧ w'.cell? ⟨G, 6, none⟩ = some (.int .i64 (L.end_ : Int)) ∧ Hid (Fr.TAt w' a8 (L.wait ++ [bs]) ∧ Below wB.heap.size wB w')) (first | assumption | exact ap_more S0 (Below.refl _ _).drew) (first | (go_at_call 33; refine (ap_count hlenW.out hx8.out hst (by assumption)).mono ?_; rintro e wq ⟨rfl, hq⟩))
          all_goals
            have hfin := Lib.hid (b8.out.trans (hq.2.2.out.2.mono b8.out.size))
            clear s1
            go_wp2
            go_ret2
            exact ⟨rfl, T, ⟨vl, vw, ps, h.out.more hfin.out⟩, Chg.of_below hfin.out, fun k hk => .inl hk⟩
        · have hq : ({ L with l := L.l ++ [r], wait := L.wait ++ [bs] }, ((L.l.length : Int) + 1), (0 : Int)) = (L', n, x) := by
            have := q.out
            rw [lapp, hok0.out, if_neg (by decide), ← hbs.out, ← hx8.out, if_neg hc] at this
            exact this
          cases hq
          have hcd := Lib.hid (decide_eq_false hc)
          clear q
          go_upto_region 7 with (fail)
          go_cut [49] from 11 (fun s49 wr => s49 = .bool false ∧ Aside (Below wB.heap.size wB wr))
          case first =>
            go_wp2_with fail
            go_region_held3 (fun w' => w'.cell? ⟨G, 2, none⟩ = some (.int .i64 (L.secs : Int)) ∧ w'.cell? ⟨G, 6, none⟩ = some (.int .i64 (L.end_ : Int)) ∧ Hid (Fr.TAt w' a8 (L.wait ++ [bs]) ∧ Below wB.heap.size wB w')) (first | assumption | exact ap_more S0 (Below.refl _ _).drew) (first | (go_at_call 33; refine (ap_count hlenW.out hx8.out hst (by assumption)).mono ?_; rintro e wq ⟨rfl, hq⟩))
            all_goals
              have hfin := Lib.hid hq.2.2.out.2
              clear s1
              go_wp2
              go_meet
              case rel => exact ⟨by rw [hcd.out], hfin.out⟩
          case rest =>
            rename World => wC
            obtain ⟨rfl, hA⟩ := hcut
            have hbC := hA.out
            clear hA S0 s1 hc hcd
            have H9 := H8.out.more hbC
            have ho9 := (Chg.of_below (S := fun _ => False) hbC).row ho8.out (fun _ _ => id)
            have b9 := b8.out.trans (hbC.mono b8.out.size)
            have hT9 := hT.out.more b9
            have hszC := hbC.size
            have hTl := Lib.hid (h.out.lt)
            have hTG := h.out.inG
            replace H9 := Lib.hid H9
            replace ho9 := Lib.hid ho9
            replace b9 := Lib.hid b9
            clear ho8 H8 b8 hbC
            go_wp2_with fail
            refine (Rc.recget_any bs wC hT9).mono ?_
            intro e w4 hp
            obtain ⟨y, b1', d1, b2', d2, b3', d3, b4', d4, pf, rfl, hR, hpt, hpf, hb4⟩ := Rc.getLet_of hp
            clear hp
            cases pf with
            | false => exact absurd hbs.out.symm ((hpf rfl).2 r ((Rc.recOk_iff r).1 hok0.out))
            | true =>
              obtain ⟨hy1, hy2⟩ := hpt rfl
              have hyr : y = r := Rc.enc_inj hy1 ((Rc.recOk_iff r).1 hok0.out) (hy2.trans hbs.out) (Rc.parsed_ex _)
              subst hyr
              clear hpt hpf hy1 hy2
              obtain ⟨p, hp⟩ : ∃ p : Rp, p = ⟨y, .slice b1' y.pages.length d1, .slice b2' y.pats.length d2, .slice b3' y.txs.length d3, .slice b4' y.dirty.length d4⟩ := ⟨_, rfl⟩
              have hK : RecK w4 (fun k => wC.heap.size ≤ k ∧ k < w4.heap.size) p := by rw [hp]; exact RecK.own hR
              have hpr : p.r = y := by rw [hp]
              have H4 := H9.out.more hb4
              have ho4 := Rc.row_base ((Chg.of_below (S := fun _ => False) hb4).row ho9.out (fun _ _ => id)) (Nat.zero_le _)
              rw [hlenW.out] at ho4
              obtain ⟨H5, c5⟩ := H4.setWait ho4 (fun k hk e => by
                have := hv8.out k (by rw [hlenW.out]; exact hk)
                have := hTl.out k e
                omega)
              rw [← hlenW.out] at H5 c5
              obtain ⟨_, _, _, _, _, _, _, _, _, _, _, z5, _, hf4, hG4⟩ := H4.cells
              have hf5 := hf4 5
              obtain ⟨wE, hwE⟩ : ∃ wE, wE = (w4.setCell ⟨G, 5, none⟩ (.slice a8 (m + 1) c8)).alloc (.cells #[.int .i64 y.kind, .int .i64 y.tx, .int .i64 y.prev, .int .i64 y.next, .string (mk y.key), .bool y.had, .string (mk y.old.key), .string (mk y.old.val), .int .i64 y.old.blob, .int .i64 y.old.size, .slice b1' y.pages.length d1, .slice b2' y.pats.length d2, .slice b3' y.txs.length d3, .slice b4' y.dirty.length d4] 37) := ⟨_, rfl⟩
              have hE : Chg (fun k => k = G) w4 wE := by rw [hwE]; exact c5.alloc _
              have hsE : wE.heap.size = w4.heap.size + 1 := by rw [hwE]; simp
              have HE := H5.more (w' := wE) (by rw [hwE]; exact (Below.refl _ _).alloc (Nat.le_refl _) _)
              have cT : Chg T w wE := ((Chg.of_below (S := T) b9.out).trans (Chg.of_below (S := T) hb4) (fun _ _ h => h)).trans hE (fun k _ e => e ▸ hTG)
              have hblk : wE.heap[w4.heap.size]? = some (.cells p.cells.toArray 37 (0, 0)) := by
                have := heap_alloc_new (w4.setCell ⟨G, 5, none⟩ (.slice a8 (m + 1) c8)) (.cells #[.int .i64 y.kind, .int .i64 y.tx, .int .i64 y.prev, .int .i64 y.next, .string (mk y.key), .bool y.had, .string (mk y.old.key), .string (mk y.old.val), .int .i64 y.old.blob, .int .i64 y.old.size, .slice b1' y.pages.length d1, .slice b2' y.pats.length d2, .slice b3' y.txs.length d3, .slice b4' y.dirty.length d4] 37)
                rw [show (w4.setCell ⟨G, 5, none⟩ (.slice a8 (m + 1) c8)).heap.size = w4.heap.size by simp] at this
                rw [hwE, hp]
                exact this
              have hKE := hK.chg hE (fun k hk e => by omega)
              have hs4 := hb4.size
              replace HE := Lib.hid HE
              replace cT := Lib.hid cT
              replace hblk := Lib.hid hblk
              replace hKE := Lib.hid hKE
              replace hsE := Lib.hid hsE
              replace hwE := Lib.hid hwE
              replace hp := Lib.hid hp
              replace hpr := Lib.hid hpr
              clear c5 H4 ho4 hE H5 hK hb4 hf4
              go_upto_region 11 with (fail)
              rw [← hwE.out]
              obtain ⟨al6, cl6, aw6, cw6, f1, f2, n0, n1, n2, n3, n4, n5, n6, hf6, hG6⟩ := HE.out.cells
              have hf64 := hf6 4
              simp only at f1 f2 n4
              have hb6 : wE.heap[w4.heap.size]? = some (.cells #[.int .i64 y.kind, .int .i64 y.tx, .int .i64 y.prev, .int .i64 y.next, .string (mk y.key), .bool y.had, .string (mk y.old.key), .string (mk y.old.val), .int .i64 y.old.blob, .int .i64 y.old.size, .slice b1' y.pages.length d1, .slice b2' y.pats.length d2, .slice b3' y.txs.length d3, .slice b4' y.dirty.length d4] 37 (0, 0)) := by
                have := hblk.out
                rw [hp.out] at this
                exact this
              obtain ⟨⟨r0, r1, r2, r3, r4, r5, r6⟩, ⟨r7, r8, r9, r10, r11, r12, r13⟩, hl6⟩ := Rc.rec_cells hb6
              have hRd : ∀ w : World, RdAt (w.alloc (.cells #[.int .i64 y.kind, .int .i64 y.tx, .int .i64 y.prev, .int .i64 y.next, .string (mk y.key), .bool y.had, .string (mk y.old.key), .string (mk y.old.val), .int .i64 y.old.blob, .int .i64 y.old.size, .slice b1' y.pages.length d1, .slice b2' y.pats.length d2, .slice b3' y.txs.length d3, .slice b4' y.dirty.length d4] 37)) (.slice (some ⟨w.heap.size, 0, none⟩) 1 1) 1 p.cells := fun w => by
                rw [hp.out]
                exact RdAt.newRec ⟨y, .slice b1' y.pages.length d1, .slice b2' y.pats.length d2, .slice b3' y.txs.length d3, .slice b4' y.dirty.length d4⟩ 37 rfl 1
              have hOne := Rp.cells_one p hKE.out
              have hrl : wE.ownsRow 0 37 14 (.slice al6 L.l.length cl6) L.l.length (rpcells ps) := f1 ▸ HE.out.rl
              have hlen9 : p.cells.length = 1 * 14 := rfl
              obtain ⟨nl, hnl⟩ : ∃ nl, nl = L.l.length := ⟨_, rfl⟩
              rw [← hnl] at hrl n4
              have hnl2 : nl ≤ 100000 := by omega
              replace hb6 := Lib.hid hb6
              replace hRd := Lib.hid hRd
              replace hOne := Lib.hid hOne
              replace hrl := Lib.hid hrl
              replace hlen9 := Lib.hid hlen9
              replace hnl := Lib.hid hnl
              have hvlG : ∀ k, (Value.slice al6 nl cl6).ownBlock = some k → k ≠ G := fun k hk => (HE.out.bl k (by rw [f1]; rw [hnl.out] at hk; exact hk)).2
              replace hvlG := Lib.hid hvlG
              clear f2 n0 n1 n2 n3 n5 n6 hf6 z5
              replace f1 := Lib.hid f1
              go_cut [9] from 11 (fun _ wr => Aside (∃ T', LAt wr B G T' { L with l := L.l ++ [y], wait := L.wait ++ [bs] } ∧ Chg T w wr ∧ ∀ k, T' k → T k ∨ w.heap.size ≤ k))
              case first =>
                go_region_law (refine step_append_rd rfl (.tmp 63) (.tmp 65) 45 rfl 0 37 ir Rc.zrec 14 200 Tryd.underlying45 hir hr0 hr1 hr2 rfl (by decide) (.slice al6 nl cl6) nl (rpcells ps) (by simp [Act.eval]) (hrl.out.drew.alloc _) (.slice (some ⟨wE.heap.size, 0, none⟩) 1 1) 1 p.cells (by simp [Act.eval]) hlen9.out (hRd.out _) hOne.out (by unfold maxLen; omega) (by omega) (by simp) ?_; intro v7 w7 hp7; obtain ⟨a7, m7, cc7, rfl, hm7⟩ := own_form hp7.1; subst hm7; have g7 := hold_app hp7 hG6 hvlG.out; rw [HE.out.blk] at g7; have c7 := cell_of (i := 4) g7 rfl; have z7 := free_of (i := 4) g7; have l7 := lt_of g7; replace hp7 := Lib.hid hp7; clear g7)
                all_goals
                  have hfin := app_end (w := w) (L := L) (lo := wC.heap.size) (hi := w4.heap.size) hpr.out HE.out (by rw [f1.out, ← hnl.out]; exact hp7.out) hKE.out (by omega) (by have := hsE.out; omega) hTl.out (fun k hk => by
                    have := hv8.out k hk
                    omega) cT.out cT.out.size
                  replace hfin := Lib.hid hfin
                  clear hp7 c7 z7 l7
                  go_wp2
                  go_meet
                  case rel => exact hfin.out
              case rest =>
                rename World => wF
                obtain ⟨T', ⟨vl', vw', ps', HF⟩, hcF, hTF⟩ := hcut.out
                obtain ⟨alF, clF, awF, cwF, _, _, _, _, _, _, k4, _, _, _, hGF⟩ := HF.cells
                have hlF : ((L.l ++ [y]).length : Int) = (L.l.length : Int) + 1 := by simp
                have hfin := Lib.hid (show ∃ T', LAt wF B G T' { L with l := L.l ++ [y], wait := L.wait ++ [bs] } ∧ Chg T w wF ∧ ∀ k, T' k → T k ∨ w.heap.size ≤ k from ⟨T', ⟨vl', vw', ps', HF⟩, hcF, hTF⟩)
                simp only at k4
                obtain ⟨nf, hnf⟩ : ∃ nf, nf = (L.l ++ [y]).length := ⟨_, rfl⟩
                rw [← hnf] at k4 hlF
                replace hlF := Lib.hid hlF
                replace hnf := Lib.hid hnf
                clear hcut HF hcF hTF
                go_wp2
                go_ret2
                exact ⟨by rw [← hlF.out]; rfl, hfin.out⟩
end
end Go.Proofs.YtofejnhnnmnfpaaDoor
