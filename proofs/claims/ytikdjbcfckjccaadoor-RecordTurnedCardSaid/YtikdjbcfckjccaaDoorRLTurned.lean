/- The walk of the law RecordTurned. No condition but the table of spaces. -/
import Derived.Test.YtikdjbcfckjccaaDoorRecF
import Derived.Deep.DeepCutAuto
import Derived.Deep.CutBlock
namespace Go.Proofs.YtikdjbcfckjccaaDoor
open Go.RowKit
attribute [local go_sem] mk_size
theorem conv_at (y : UInt8) (b : Nat) (w : World) (h : w.heap[b]? = some (.cells #[.int .u8 y.toNat] 5 (0, 0))) : (convert 44 9 (.slice (some ⟨b, 0, none⟩) 1 1)).run Tryd.prog w = .ok (.string (mk [y])) w :=
  run_convert_bytes_back w 44 9 5 ⟨b, 0, none⟩ 1 [y] Tryd.underlying44 Tryd.underlying5 Tryd.underlying9 fun j hj => by
    match j, hj with
    | 0, _ => rw [Addr.add_lit]; exact cell_of h rfl
@[local go_sem] theorem conv_a (y : UInt8) (w : World) : (convert 44 9 (.slice (some ⟨w.heap.size, 0, none⟩) 1 1)).run Tryd.prog (w.alloc (.cells #[.int .u8 y.toNat] 5 (0, 0))).drew = .ok (.string (mk [y])) (w.alloc (.cells #[.int .u8 y.toNat] 5 (0, 0))).drew :=
  conv_at y _ _ (heap_alloc_new w _)
@[local go_sem] theorem conv_ax (y : UInt8) (w : World) (o : Obj) : (convert 44 9 (.slice (some ⟨w.heap.size, 0, none⟩) 1 1)).run Tryd.prog ((w.alloc (.cells #[.int .u8 y.toNat] 5 (0, 0))).alloc o).drew = .ok (.string (mk [y])) ((w.alloc (.cells #[.int .u8 y.toNat] 5 (0, 0))).alloc o).drew :=
  conv_at y _ _ ((((Chg.refl (fun _ => False) _).alloc o).drew).heap (heap_alloc_new w _) id)
@[local go_sem] theorem conv_xa (y : UInt8) (w : World) (o : Obj) : (convert 44 9 (.slice (some ⟨w.heap.size + 1, 0, none⟩) 1 1)).run Tryd.prog ((w.alloc o).alloc (.cells #[.int .u8 y.toNat] 5 (0, 0))).drew = .ok (.string (mk [y])) ((w.alloc o).alloc (.cells #[.int .u8 y.toNat] 5 (0, 0))).drew :=
  conv_at y _ _ (by have := heap_alloc_new (w.alloc o) (.cells #[.int .u8 y.toNat] 5 (0, 0)); rw [World.size_alloc] at this; exact this)
def Fit (a b : List UInt8) : Prop := a.length + b.length ≤ 1000000000000000
@[local go_sem high] theorem cat_ok (a b : List UInt8) (h : Fit a b) (w : World) : (Op.stringOp .add (mk a) (mk b)).run Tryd.prog w = .ok (.string (mk (a ++ b))) w := by
  unfold Fit at h
  have := run_string_add_sum (P := Tryd.prog) (w := w) (mk a) (mk b) (by rw [mk_size, mk_size]; omega)
  rw [mk_append] at this
  exact this
theorem blk_1 {w wq : World} {o1 o2 : Obj} (h : Below (((w.alloc o1).alloc o2).drew).heap.size (((w.alloc o1).alloc o2).drew) wq) : wq.heap[w.heap.size]? = some o1 :=
  (Chg.of_below (S := fun _ => False) h).heap ((((Chg.refl (fun _ => False) _).alloc o2).drew).heap (heap_alloc_new w o1) id) id
theorem blk_2 {w wq : World} {o1 o2 : Obj} (h : Below (((w.alloc o1).alloc o2).drew).heap.size (((w.alloc o1).alloc o2).drew) wq) : wq.heap[w.heap.size + 1]? = some o2 :=
  (Chg.of_below (S := fun _ => False) h).heap (by have := heap_alloc_new (w.alloc o1) o2; rw [World.size_alloc] at this; exact this) id
/-- The variable that the record is read into. -/
def XBlk (w : World) (X : Nat) : Prop := w.heap[X]? = some (.cells #[.int .i64 0, .int .i64 0, .int .i64 0, .int .i64 0, .string ByteArray.empty, .bool false, .string ByteArray.empty, .string ByteArray.empty, .int .i64 0, .int .i64 0, .slice none 0 0, .slice none 0 0, .slice none 0 0, .slice none 0 0] 29 (0, 0))
/-- A record that was read, in its variable. -/
def YAt (w : World) (X : Nat) (y : Rec) (a1 : Option Addr) (c1 : Nat) (a2 : Option Addr) (c2 : Nat) (a3 : Option Addr) (c3 : Nat) (a4 : Option Addr) (c4 : Nat) : Prop :=
  w.heap[X]? = some (.cells #[.int .i64 y.kind, .int .i64 y.tx, .int .i64 y.prev, .int .i64 y.next, .string (mk y.key), .bool y.had, .string (mk y.old.key), .string (mk y.old.val), .int .i64 y.old.blob, .int .i64 y.old.size, .slice a1 y.pages.length c1, .slice a2 y.pats.length c2, .slice a3 y.txs.length c3, .slice a4 y.dirty.length c4] 29 (0, 0)) ∧ ∃ base, RecOwn w base (.agg #[.int .i64 y.kind, .int .i64 y.tx, .int .i64 y.prev, .int .i64 y.next, .string (mk y.key), .bool y.had, .string (mk y.old.key), .string (mk y.old.val), .int .i64 y.old.blob, .int .i64 y.old.size, .slice a1 y.pages.length c1, .slice a2 y.pats.length c2, .slice a3 y.txs.length c3, .slice a4 y.dirty.length c4]) (.slice a1 y.pages.length c1) (.slice a2 y.pats.length c2) (.slice a3 y.txs.length c3) (.slice a4 y.dirty.length c4) y
theorem get_T {w3 w : World} (b : List UInt8) (hT : Tab w3) (h : Below w3.heap.size w3 w) : Calls Tryd.prog 11 #[.string (mk b)] w (GetLet b w) := (recget_any b w (hT.more h)).mono fun _ _ h => getLet_of h
theorem turn_ne (b : List UInt8) (k : Nat) (hk : k < b.length) (x : UInt8) (hx : b.getD k 0 ≠ x) : b ≠ b.take k ++ ([x] ++ b.drop (k + 1)) := by
  intro h
  have := congrArg (fun l => l[k]?) h
  rw [List.getElem?_append_right (by rw [List.length_take]; omega), List.length_take, Nat.min_eq_left (by omega), Nat.sub_self, List.getElem?_eq_getElem hk] at this
  rw [List.getD, List.getElem?_eq_getElem hk] at hx
  exact hx (Option.some.inj this)
theorem enc_pos (r : Rec) : 0 < (enc r).length := by rw [enc_length]; omega
theorem wf_u8 {x : Int} (h : (Lit.int .u8 x).wf = true) : 0 ≤ x ∧ x ≤ 255 := by
  simp [Lit.wf] at h
  have e : IntKind.u8.min = 0 := by decide
  have e2 : IntKind.u8.max = 255 := by decide
  omega
set_option maxRecDepth 100000 in
set_option maxHeartbeats 12800000 in
theorem recordTurned_walk (v : Value) (r : Rec) (n x : Int) (w : World) (hT : Tab w) (hv : IsRec w v r) (w0 : (Lit.int .i64 n).wf = true) (w1 : (Lit.int .u8 x).wf = true) : Calls Tryd.prog 6 #[v, .int .i64 n, .int .u8 x] w fun e w' => e = .returned (.bool true) ∧ Below w.heap.size w w' := by
  obtain ⟨x1, x2⟩ := wf_u8 w1
  obtain ⟨xb, rfl⟩ : ∃ xb : UInt8, x = xb.toNat := ⟨UInt8.ofNat x.toNat, by rw [UInt8.toNat_ofNat', Nat.mod_eq_of_lt (by omega)]; omega⟩
  obtain ⟨⟨vp, vt, vx, vd, hR⟩, hl1, hl2⟩ := hv
  obtain ⟨a1, c1, a2, c2, a3, c3, a4, c4, rfl, rfl, rfl, rfl, rfl⟩ := recAt_form hR
  have hB0 := RB.start hR
  have cL := light_any _ _ _ _ _ r _ hB0.at_ hl1 hl2
  replace cL := Lib.hid cL
  replace hB0 := Lib.hid hB0
  clear hR
  go_enter Tryd.func6, Tryd.ntmps6
  go_wp2_with fail
  refine cL.out.mono ?_
  rintro e w1 ⟨bb, rfl, hbb, hb1⟩
  have hB1 := hB0.out.more hb1
  have hT1 := hT.more hB1.bel
  clear hb1 hB0 cL
  replace hB1 := Lib.hid hB1
  replace hbb := Lib.hid hbb
  cases bb with
  | false =>
    go_wp2_with fail
    refine (alive_true _ hT1).mono ?_
    rintro e w2 ⟨rfl, hb2⟩
    have hb2' := Lib.hid (hB1.out.bel.trans (hb2.mono hB1.out.bel.size))
    clear hb2
    go_wp2
    go_ret
    exact ⟨rfl, hb2'.out⟩
  | true =>
    obtain ⟨g1, g2, g3, g4⟩ := hbb.out rfl
    by_cases d2 : xb = 0
    · subst d2
      go_wp2_with fail
      refine (alive_true _ hT1).mono ?_
      rintro e w2 ⟨rfl, hb2⟩
      have hb2' := Lib.hid (hB1.out.bel.trans (hb2.mono hB1.out.bel.size))
      clear hb2
      go_wp2
      go_ret
      exact ⟨rfl, hb2'.out⟩
    have dxb : xb ≠ 0 := d2
    have d3 : ((xb.toNat : Int) == 0) = false := by
      rw [beq_eq_false_iff_ne]
      intro h
      exact d2 (UInt8.toNat_inj.1 (by simpa using h))
    go_wp2_with fail
    refine (alive_true _ hT1).mono ?_
    rintro e w2 ⟨rfl, hb2⟩
    have hB2 := hB1.out.more hb2
    have hT2 := hT.more hB2.bel
    have cP := put_any _ _ _ _ _ r w2 hT2 hB2.at_
    obtain ⟨ok, hok⟩ : ∃ ok, ok = recOk r := ⟨_, rfl⟩
    rw [← hok] at cP
    obtain ⟨⟨d0, d1, d2, d3, d4, d5, d6⟩, ⟨d7, d8, d9, d10, d11, d12, d13⟩, hl9⟩ := rec_cells hB2.box
    replace hB2 := Lib.hid hB2
    replace cP := Lib.hid cP
    clear hb2 hT1 hB1 hbb
    go_wp2_with fail
    refine cP.out.mono ?_
    rintro e w3 ⟨rfl, hb3⟩
    have hB3 := hB2.out.more hb3
    have hT3 := hT.more hB3.bel
    clear hB2 cP hb3 hT2 d0 d1 d2 d3 d4 d5 d6 d7 d8 d9 d10 d11 d12 d13 hl9
    obtain ⟨⟨d0, d1, d2, d3, d4, d5, d6⟩, ⟨d7, d8, d9, d10, d11, d12, d13⟩, hl9⟩ := rec_cells hB3.box
    cases ok with
    | false =>
      replace hB3 := Lib.hid hB3
      replace hok := Lib.hid hok
      go_wp2
      go_ret
      exact ⟨rfl, hB3.out.bel⟩
    | true =>
      have hro := (recOk_iff r).1 hok.symm
      rw [if_pos rfl]
      have hpos := enc_pos r
      obtain ⟨bs, hbs⟩ : ∃ bs, bs = enc r := ⟨_, rfl⟩
      rw [← hbs] at hpos ⊢
      obtain ⟨L, hL⟩ : ∃ L, L = bs.length := ⟨_, rfl⟩
      have hLz : ((L : Int) == 0) = false := by rw [beq_eq_false_iff_ne]; omega
      have hms : (mk bs).size = L := by rw [mk_size, hL]
      obtain ⟨j, hj, hjL⟩ : ∃ j : Nat, (n.tmod L + L).tmod L = (j : Int) ∧ j < L := by
        have h1 := Int.lt_tmod_of_pos n (show (0 : Int) < L by omega)
        have h2 := Int.tmod_lt_of_pos n (show (0 : Int) < L by omega)
        have h3 := Int.tmod_eq_emod_of_nonneg (a := n.tmod L + L) (b := L) (by omega)
        have h4 := Int.emod_nonneg (n.tmod L + L) (show (L : Int) ≠ 0 by omega)
        have h5 := Int.emod_lt_of_pos (n.tmod L + L) (show (0 : Int) < L by omega)
        exact ⟨((n.tmod L + L).tmod L).toNat, by rw [Int.toNat_of_nonneg (by omega)], by omega⟩
      have hw1 : wrap64 (n.tmod L + L) = n.tmod L + L := by
        have h1 := Int.lt_tmod_of_pos n (show (0 : Int) < L by omega)
        have h2 := Int.tmod_lt_of_pos n (show (0 : Int) < L by omega)
        have h3 := enc_le hro
        rw [← hbs] at h3
        unfold wrap64; omega
      have hkb : j < bs.length := by omega
      obtain ⟨y, hy⟩ : ∃ y, y = bs.getD j 0 := ⟨_, rfl⟩
      have hs1 := sl_to bs j j rfl (by omega)
      have hs2 := sl_from bs (j + 1) ((j : Int) + 1) (by push_cast; rfl) (by omega)
      have hix := idx bs j j y.toNat rfl hkb (by rw [hy])
      have hxo := bits_xor_u8 y xb
      have hlen := enc_le hro
      rw [← hbs] at hlen
      have hct1 : ∀ z, Fit (bs.take j) [z] := fun z => by simp only [Fit, List.length_take, List.length_singleton]; omega
      have hct2 : ∀ z, Fit (bs.take j ++ [z]) (bs.drop (j + 1)) := fun z => by simp only [Fit, List.length_append, List.length_take, List.length_drop, List.length_singleton]; omega
      have hwk : IntKind.i64.wrap ((j : Int) + 1) = (j : Int) + 1 := by rw [IntKind.wrap_i64]; omega
      clear hlen
      obtain ⟨z, hz⟩ : ∃ z, z = y ^^^ xb := ⟨_, rfl⟩
      have hdf := turn_ne bs j hkb (y ^^^ xb) (by rw [← hy]; exact xor_ne y xb dxb)
      rw [← hz] at hxo hdf
      replace hz := Lib.hid hz
      replace hB3 := Lib.hid hB3
      replace hok := Lib.hid hok
      replace hro := Lib.hid hro
      replace hbs := Lib.hid hbs
      replace hL := Lib.hid hL
      replace hy := Lib.hid hy
      replace hdf := Lib.hid hdf
      go_upto_region 9 with fail
      go_cut [10, 11] (fun xp isv wr => ∃ (X : Nat) (y' : Rec) (a1' : Option Addr) (c1' : Nat) (a2' : Option Addr) (c2' : Nat) (a3' : Option Addr) (c3' : Nat) (a4' : Option Addr) (c4' : Nat) (pf : Bool), xp = .pointer (some ⟨X, 0, none⟩) ∧ isv = .bool pf ∧ Aside (YAt wr X y' a1' c1' a2' c2' a3' c3' a4' c4' ∧ RB w wr #[.int .i64 r.kind, .int .i64 r.tx, .int .i64 r.prev, .int .i64 r.next, .string (mk r.key), .bool r.had, .string (mk r.old.key), .string (mk r.old.val), .int .i64 r.old.blob, .int .i64 r.old.size, .slice a1 r.pages.length c1, .slice a2 r.pats.length c2, .slice a3 r.txs.length c3, .slice a4 r.dirty.length c4] (.slice a1 r.pages.length c1) (.slice a2 r.pats.length c2) (.slice a3 r.txs.length c3) (.slice a4 r.dirty.length c4) r ∧ (pf = true → RecOk y' ∧ enc y' = bs.take j ++ [z] ++ bs.drop (j + 1))))
      case first =>
        go_region_with (refine (get_T _ hT3 (by first | exact Below.refl _ _ | (repeat' first | exact Below.refl _ _ | refine Below.drew ?_ | refine Below.alloc ?_ (by simp <;> omega) _))).mono ?_; rintro en wq ⟨y', a1', c1', a2', c2', a3', c3', a4', c4', pf, rfl, hRy, hpt, hpf, hbq⟩; (try (have hblk : XBlk wq (w3.heap.size + 1) := blk_2 hbq; have hcl := rec_cells hblk; have hfz : ∀ i, wq.frozen? ⟨w3.heap.size + 1, i, none⟩ = false := fun i => free_of hblk; replace hblk := Lib.hid hblk)); (try (have hblk : XBlk wq w3.heap.size := blk_1 hbq; have hcl := rec_cells hblk; have hfz : ∀ i, wq.frozen? ⟨w3.heap.size, i, none⟩ = false := fun i => free_of hblk; replace hblk := Lib.hid hblk)))
        · have hlt3 := hB3.out.lt
          have hBq := hB3.out.more (w' := wq) (Below.trans (by (repeat' first | exact Below.refl _ _ | refine Below.drew ?_ | refine Below.alloc ?_ (by simp <;> omega) _)) (hbq.mono (by simp <;> omega)))
          have hBE := hBq.more ((Below.refl _ _).alloc (Nat.le_refl _) (.cells #[.int .i64 y'.kind, .int .i64 y'.tx, .int .i64 y'.prev, .int .i64 y'.next, .string (mk y'.key), .bool y'.had, .string (mk y'.old.key), .string (mk y'.old.val), .int .i64 y'.old.blob, .int .i64 y'.old.size, .slice a1' y'.pages.length c1', .slice a2' y'.pats.length c2', .slice a3' y'.txs.length c3', .slice a4' y'.dirty.length c4'] 29))
          have hH := heap_alloc_new wq (.cells #[.int .i64 y'.kind, .int .i64 y'.tx, .int .i64 y'.prev, .int .i64 y'.next, .string (mk y'.key), .bool y'.had, .string (mk y'.old.key), .string (mk y'.old.val), .int .i64 y'.old.blob, .int .i64 y'.old.size, .slice a1' y'.pages.length c1', .slice a2' y'.pats.length c2', .slice a3' y'.txs.length c3', .slice a4' y'.dirty.length c4'] 29)
          have hRE := hRy.chg (S := fun _ => False) ((Chg.refl _ _).alloc (.cells #[.int .i64 y'.kind, .int .i64 y'.tx, .int .i64 y'.prev, .int .i64 y'.next, .string (mk y'.key), .bool y'.had, .string (mk y'.old.key), .string (mk y'.old.val), .int .i64 y'.old.blob, .int .i64 y'.old.size, .slice a1' y'.pages.length c1', .slice a2' y'.pats.length c2', .slice a3' y'.txs.length c3', .slice a4' y'.dirty.length c4'] 29)) (fun _ e => e.elim)
          have hXl := hBq.lt
          generalize hX : wq.heap.size = X at hH hXl ⊢
          generalize World.alloc wq _ = wE at hBE hH hRE ⊢
          go_wp2
          go_meet
          exact ⟨_, y', a1', c1', a2', c2', a3', c3', a4', c4', pf, rfl, rfl, ⟨hH, _, hRE⟩, hBE, fun h => ⟨(hpt h).1, (hpt h).2.trans (by simp)⟩⟩
        · have hlt3 := hB3.out.lt
          have hBq := hB3.out.more (w' := wq) (Below.trans (by (repeat' first | exact Below.refl _ _ | refine Below.drew ?_ | refine Below.alloc ?_ (by simp <;> omega) _)) (hbq.mono (by simp <;> omega)))
          obtain ⟨hH, hCh⟩ := fill14 hblk.out (.int .i64 y'.kind) (.int .i64 y'.tx) (.int .i64 y'.prev) (.int .i64 y'.next) (.string (mk y'.key)) (.bool y'.had) (.string (mk y'.old.key)) (.string (mk y'.old.val)) (.int .i64 y'.old.blob) (.int .i64 y'.old.size) (.slice a1' y'.pages.length c1') (.slice a2' y'.pats.length c2') (.slice a3' y'.txs.length c3') (.slice a4' y'.dirty.length c4')
          have hBE := hBq.chg hCh (fun k e _ => by rw [e]; omega)
          have hRE := hRy.chg hCh (fun k e _ => by rw [e]; simp <;> omega)
          generalize World.setCell _ _ _ = wE at hH hCh hBE hRE ⊢
          go_wp2
          go_meet
          exact ⟨_, y', a1', c1', a2', c2', a3', c3', a4', c4', pf, rfl, rfl, ⟨hH, _, hRE⟩, hBE, fun h => ⟨(hpt h).1, (hpt h).2.trans (by simp)⟩⟩
        · have hlt3 := hB3.out.lt
          have hBq := hB3.out.more (w' := wq) (Below.trans (by (repeat' first | exact Below.refl _ _ | refine Below.drew ?_ | refine Below.alloc ?_ (by simp <;> omega) _)) (hbq.mono (by simp <;> omega)))
          obtain ⟨hH, hCh⟩ := fill14 hblk.out (.int .i64 y'.kind) (.int .i64 y'.tx) (.int .i64 y'.prev) (.int .i64 y'.next) (.string (mk y'.key)) (.bool y'.had) (.string (mk y'.old.key)) (.string (mk y'.old.val)) (.int .i64 y'.old.blob) (.int .i64 y'.old.size) (.slice a1' y'.pages.length c1') (.slice a2' y'.pats.length c2') (.slice a3' y'.txs.length c3') (.slice a4' y'.dirty.length c4')
          have hBE := hBq.chg hCh (fun k e _ => by rw [e]; omega)
          have hRE := hRy.chg hCh (fun k e _ => by rw [e]; simp <;> omega)
          generalize World.setCell _ _ _ = wE at hH hCh hBE hRE ⊢
          go_wp2
          go_meet
          exact ⟨_, y', a1', c1', a2', c2', a3', c3', a4', c4', pf, rfl, rfl, ⟨hH, _, hRE⟩, hBE, fun h => ⟨(hpt h).1, (hpt h).2.trans (by simp)⟩⟩
        · have hlt3 := hB3.out.lt
          have hBq := hB3.out.more (w' := wq) (Below.trans (by (repeat' first | exact Below.refl _ _ | refine Below.drew ?_ | refine Below.alloc ?_ (by simp <;> omega) _)) (hbq.mono (by simp <;> omega)))
          obtain ⟨hH, hCh⟩ := fill14 hblk.out (.int .i64 y'.kind) (.int .i64 y'.tx) (.int .i64 y'.prev) (.int .i64 y'.next) (.string (mk y'.key)) (.bool y'.had) (.string (mk y'.old.key)) (.string (mk y'.old.val)) (.int .i64 y'.old.blob) (.int .i64 y'.old.size) (.slice a1' y'.pages.length c1') (.slice a2' y'.pats.length c2') (.slice a3' y'.txs.length c3') (.slice a4' y'.dirty.length c4')
          have hBE := hBq.chg hCh (fun k e _ => by rw [e]; omega)
          have hRE := hRy.chg hCh (fun k e _ => by rw [e]; simp <;> omega)
          generalize World.setCell _ _ _ = wE at hH hCh hBE hRE ⊢
          go_wp2
          go_meet
          exact ⟨_, y', a1', c1', a2', c2', a3', c3', a4', c4', pf, rfl, rfl, ⟨hH, _, hRE⟩, hBE, fun h => ⟨(hpt h).1, (hpt h).2.trans (by simp)⟩⟩
        · have hlt3 := hB3.out.lt
          have hBq := hB3.out.more (w' := wq) (Below.trans (by (repeat' first | exact Below.refl _ _ | refine Below.drew ?_ | refine Below.alloc ?_ (by simp <;> omega) _)) (hbq.mono (by simp <;> omega)))
          obtain ⟨hH, hCh⟩ := fill14 hblk.out (.int .i64 y'.kind) (.int .i64 y'.tx) (.int .i64 y'.prev) (.int .i64 y'.next) (.string (mk y'.key)) (.bool y'.had) (.string (mk y'.old.key)) (.string (mk y'.old.val)) (.int .i64 y'.old.blob) (.int .i64 y'.old.size) (.slice a1' y'.pages.length c1') (.slice a2' y'.pats.length c2') (.slice a3' y'.txs.length c3') (.slice a4' y'.dirty.length c4')
          have hBE := hBq.chg hCh (fun k e _ => by rw [e]; omega)
          have hRE := hRy.chg hCh (fun k e _ => by rw [e]; simp <;> omega)
          generalize World.setCell _ _ _ = wE at hH hCh hBE hRE ⊢
          go_wp2
          go_meet
          exact ⟨_, y', a1', c1', a2', c2', a3', c3', a4', c4', pf, rfl, rfl, ⟨hH, _, hRE⟩, hBE, fun h => ⟨(hpt h).1, (hpt h).2.trans (by simp)⟩⟩
      case rest =>
      obtain ⟨X, y', a1', c1', a2', c2', a3', c3', a4', c4', pf, rfl, rfl, hI⟩ := hcut
      obtain ⟨⟨hH, base, hRE⟩, hBE, hpt⟩ := hI.out
      clear hI
      obtain ⟨⟨e0, e1, e2, e3, e4, e5, e6⟩, ⟨e7, e8, e9, e10, e11, e12, e13⟩, el⟩ := rec_cells hH
      obtain ⟨⟨f0, f1, f2, f3, f4, f5, f6⟩, ⟨f7, f8, f9, f10, f11, f12, f13⟩, fl⟩ := rec_cells hBE.box
      have hbE := Lib.hid hBE.bel
      replace hRE := Lib.hid hRE
      replace hBE := Lib.hid hBE
      replace hH := Lib.hid hH
      replace hpt := Lib.hid hpt
      clear d0 d1 d2 d3 d4 d5 d6 d7 d8 d9 d10 d11 d12 d13
      cases pf with
      | false =>
        go_wp2
        go_ret
        exact ⟨rfl, hbE.out⟩
      | true =>
        obtain ⟨hoy, hey⟩ := hpt.out rfl
        have hne : y' ≠ r := fun e => hdf.out ((show bs = enc y' by rw [hbs.out, e]).trans (hey.trans (by simp)))
        have cS := sameR_any _ _ _ _ _ _ _ _ _ _ y' r wc hRE.out.at_ hBE.out.at_ (small_of hoy)
        rw [decide_eq_false hne] at cS
        replace cS := Lib.hid cS
        replace hoy := Lib.hid hoy
        replace hey := Lib.hid hey
        clear hne
        go_wp2_with fail
        refine cS.out.mono ?_
        rintro e w6 ⟨rfl, hb6⟩
        have hb6' := Lib.hid (hbE.out.trans (hb6.mono hbE.out.size))
        clear hb6
        go_wp2
        go_ret
        exact ⟨rfl, hb6'.out⟩
end Go.Proofs.YtikdjbcfckjccaaDoor
