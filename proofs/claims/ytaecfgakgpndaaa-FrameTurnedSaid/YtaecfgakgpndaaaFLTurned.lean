/- The walk of the law FrameTurned. No condition. -/
import Derived.Test.YtaecfgakgpndaaaFLPlaces
import Derived.Test.YtaecfgakgpndaaaFSl
import Derived.Test.YtaecfgakgpndaaaFGet
import Derived.Test.YtaecfgakgpndaaaFOpen
import Derived.Lib.SmallJoins
import Derived.Deep.RegionHeld3
import Derived.Deep.DrawnRows
import Derived.Outline
import Derived.Handy
namespace Go.Proofs.Ytaecfgakgpndaaa
open Go.ChangeShapes Go.WideShapes Go.ChangeAt Go.RowKit Go.Joins
attribute [local go_sem] mk_size mk_append

def secA (e i : Int) (f : Bool) (p : List UInt8) : Value := .agg #[.int .i64 e, .int .i64 i, .bool f, .string (mk p)]
/-- Its fields. -/
def IsSec (_ : World) (v : Value) (x : Int × Int × Bool × List UInt8) : Prop :=
  v = secA x.1 x.2.1 x.2.2.1 x.2.2.2 ∧ x.2.2.2.length ≤ 140737488351232
theorem open_sec {H : Type} {enc : TypeId × Value → H} {W : World} {base : Nat} {v : Value} {d : DataW H} {p : List MemPlace} {ts : List TypeId} {ds : List (DataW H)} {j : Nat}
    (hsz : (DataW.weightsEach Try.prog ts ds).all (· ≤ reachBytes) = true) (ht : ts[j]? = some 40) (hd : ds[j]? = some d)
    (hval : Value.okWide Try.prog W .any base 40 v) (h : DataW.Trod enc Try.prog W 0 (fun _ => true) true 40 v d p) : ∃ x, IsSec W v x := by
  obtain ⟨c0, c1, c2, c3, y0, y1, y2, y3, n, rfl, rfl, rfl, h0, h1, h2, h3⟩ := open_agg4 Try.underlying40 (by kernel_rfl) (by kernel_rfl) hval h
  obtain ⟨a0, e0, f0, g0⟩ := DataW.trod_int Try.underlying3 h0
  obtain ⟨a1, e1, f1, g1⟩ := DataW.trod_int Try.underlying3 h1
  obtain ⟨a2, e2, f2⟩ := DataW.trod_bool Try.underlying4 h2
  obtain ⟨s, e3, f3, f4⟩ := DataW.trod_string Try.underlying9 h3
  cases e0
  cases e1
  cases e2
  cases e3
  refine ⟨⟨a0, a1, a2, s.data.toList⟩, by simp [secA, mk_of], ?_⟩
  subst f3
  have := List.all_eq_true.1 hsz _ (DataW.weights_mem_each ht hd s.data.toList.length (by
    simp only [DataW.weights, Try.underlying40]
    simp [DataW.weightsEach, DataW.weights]))
  have h2 := of_decide_eq_true this
  rw [Array.length_toList] at h2 ⊢
  exact h2

/-- One byte that was made a text. -/
theorem conv1 (x : UInt8) (w : World) (b : Nat) (h0 : w.cell? ⟨b, 0, none⟩ = some (.int .u8 x.toNat)) :
    (convert 46 9 (.slice (some ⟨b, 0, none⟩) 1 1)).run Try.prog w = .ok (.string (mk [x])) w :=
  run_convert_bytes_back w 46 9 5 ⟨b, 0, none⟩ 1 [x] Try.underlying46 Try.underlying5 Try.underlying9 fun j hj => by
    match j, hj with
    | 0, _ => rw [Addr.add_lit]; simpa using h0
theorem wf_u8 {n : Int} (h : (Lit.int .u8 n).wf = true) : 0 ≤ n ∧ n ≤ 255 := by
  simp [Lit.wf] at h
  have e : IntKind.u8.min = 0 := by decide
  have e2 : IntKind.u8.max = 255 := by decide
  omega
theorem same_cell {w w' : World} {a : Addr} {v : Value} (hb : Below w.heap.size w w') (h : w.cell? a = some v) : w'.cell? a = some v :=
  (World.cell?_of_block (w := w) (hb.block _ (World.block_lt_of_cell? w _ h))).trans h
/-- What the sector was. -/
def SgS (w0 : World) (e i : Int) (f : Bool) (p : List UInt8) (w : World) : Prop := w.cell? ⟨w0.heap.size, 0, none⟩ = some (.int .i64 e) ∧ w.cell? ⟨w0.heap.size, 1, none⟩ = some (.int .i64 i) ∧ w.cell? ⟨w0.heap.size, 2, none⟩ = some (.bool f) ∧ w.cell? ⟨w0.heap.size, 3, none⟩ = some (.string (mk p)) ∧ Hid (Below w0.heap.size w0 w)
/-- and a byte that was made. -/
def TS (w0 : World) (e i : Int) (f : Bool) (p : List UInt8) (B : Nat) (v : Value) (w : World) : Prop := SgS w0 e i f p w ∧ w.cell? ⟨B, 0, none⟩ = some v
/-- The sector that came in and the one that was read. -/
def SecTwo (w0 : World) (e0 i0 : Int) (f0 : Bool) (p0 : List UInt8) (C : Nat) (a b c e : Value) (w : World) : Prop := SgS w0 e0 i0 f0 p0 w ∧ w.cell? ⟨C, 0, none⟩ = some a ∧ w.cell? ⟨C, 1, none⟩ = some b ∧ w.cell? ⟨C, 2, none⟩ = some c ∧ w.cell? ⟨C, 3, none⟩ = some e
section
variable {w0 : World} {e0 i0 : Int} {f0 : Bool} {p0 : List UInt8} {B : Nat} {v : Value} {w w' : World}
theorem SgS.start (w : World) (e i : Int) (f : Bool) (p : List UInt8) (t : TypeId) : SgS w e i f p (w.alloc (.cells #[.int .i64 e, .int .i64 i, .bool f, .string (mk p)] t)) :=
  ⟨cell_of (heap_alloc_new w _) rfl, cell_of (heap_alloc_new w _) rfl, cell_of (heap_alloc_new w _) rfl, cell_of (heap_alloc_new w _) rfl, Lib.hid ((Below.refl _ _).alloc (Nat.le_refl _) _)⟩
theorem SgS.more (h : SgS w0 e0 i0 f0 p0 w) (hb : Below w.heap.size w w') : SgS w0 e0 i0 f0 p0 w' :=
  ⟨same_cell hb h.1, same_cell hb h.2.1, same_cell hb h.2.2.1, same_cell hb h.2.2.2.1, Lib.hid (h.2.2.2.2.out.trans (hb.mono h.2.2.2.2.out.size))⟩
theorem SgS.drew (h : SgS w0 e0 i0 f0 p0 w) : SgS w0 e0 i0 f0 p0 w.drew := h.more (Below.refl _ _).drew
theorem SgS.alloc (h : SgS w0 e0 i0 f0 p0 w) (o : Obj) : SgS w0 e0 i0 f0 p0 (w.alloc o) := h.more ((Below.refl _ _).alloc (Nat.le_refl _) _)
theorem SgS.grow1 {t : TypeId} (h : SgS w0 e0 i0 f0 p0 (w.alloc (.cells #[v] t))) : ∃ B, B = w.heap.size ∧ TS w0 e0 i0 f0 p0 B v (w.alloc (.cells #[v] t)) :=
  ⟨_, rfl, h, cell_of (heap_alloc_new w _) rfl⟩
theorem SgS.grow1' {t : TypeId} (h : SgS w0 e0 i0 f0 p0 (w.alloc (.cells #[v] t)).drew) : ∃ B, B = w.heap.size ∧ TS w0 e0 i0 f0 p0 B v (w.alloc (.cells #[v] t)).drew :=
  ⟨_, rfl, h, cell_of (heap_alloc_new w _) rfl⟩
theorem TS.more (h : TS w0 e0 i0 f0 p0 B v w) (hb : Below w.heap.size w w') : TS w0 e0 i0 f0 p0 B v w' := ⟨h.1.more hb, same_cell hb h.2⟩
theorem TS.alloc (h : TS w0 e0 i0 f0 p0 B v w) (o : Obj) : TS w0 e0 i0 f0 p0 B v (w.alloc o) := h.more ((Below.refl _ _).alloc (Nat.le_refl _) _)
theorem get_T {b : List UInt8} {V : Value} (h : TS w0 e0 i0 f0 p0 B v w) (hd : secV (dec b) = V) (hl : b.length ≤ 1000) : Calls Try.prog 18 #[.string (mk b)] w fun e w' => e = .returned V ∧ TS w0 e0 i0 f0 p0 B v w' :=
  (get_any b _ w (by omega) rfl).mono fun _ _ ⟨he, hb⟩ => ⟨by rw [he, hd], h.more hb⟩
theorem get_T2 {b : List UInt8} {V : Value} (h : TS w0 e0 i0 f0 p0 B v w) (hd : secV (dec b) = V) (hl : b.length ≤ 1000) : Calls Try.prog 18 #[.string (mk b)] w fun e w' => e = .returned V ∧ TS w0 e0 i0 f0 p0 B v w' ∧ Below w.heap.size w w' :=
  (get_any b _ w (by omega) rfl).mono fun _ _ ⟨he, hb⟩ => ⟨by rw [he, hd], h.more hb, hb⟩
theorem blkA {o1 o2 : Obj} (hb : Below ((w.alloc o1).alloc o2).heap.size ((w.alloc o1).alloc o2) w') : w'.heap[w.heap.size + 1]? = some o2 := by
  have h := heap_alloc_new (w.alloc o1) o2
  rw [show (w.alloc o1).heap.size = w.heap.size + 1 by simp] at h
  exact (hb.block _ (by simp)).trans h
theorem blkA' {o1 o2 : Obj} (hb : Below ((w.alloc o1).alloc o2).drew.heap.size ((w.alloc o1).alloc o2).drew w') : w'.heap[w.heap.size + 1]? = some o2 := by
  have h := heap_alloc_new (w.alloc o1) o2
  rw [show (w.alloc o1).heap.size = w.heap.size + 1 by simp] at h
  exact (hb.block _ (by simp)).trans h
theorem blkB {o1 o2 : Obj} (hb : Below ((w.alloc o1).alloc o2).heap.size ((w.alloc o1).alloc o2) w') : w'.heap[w.heap.size]? = some o1 :=
  (hb.block _ (by simp; omega)).trans ((Below.heap_alloc _ _ _ (by simp)).trans (heap_alloc_new w o1))
theorem blkB' {o1 o2 : Obj} (hb : Below ((w.alloc o1).alloc o2).drew.heap.size ((w.alloc o1).alloc o2).drew w') : w'.heap[w.heap.size]? = some o1 :=
  (hb.block _ (by simp; omega)).trans ((Below.heap_alloc _ _ _ (by simp)).trans (heap_alloc_new w o1))
theorem cells4 {C : Nat} {a b c d : Value} {t : TypeId} (h : w.heap[C]? = some (.cells #[a, b, c, d] t)) : w.cell? ⟨C, 0, none⟩ = some a ∧ w.cell? ⟨C, 1, none⟩ = some b ∧ w.cell? ⟨C, 2, none⟩ = some c ∧ w.cell? ⟨C, 3, none⟩ = some d ∧ ∀ i, w.frozen? ⟨C, i, none⟩ = false :=
  ⟨cell_of h rfl, cell_of h rfl, cell_of h rfl, cell_of h rfl, fun i => by simp [World.frozen?, h]⟩
theorem far_cell {C i : Nat} {a : Addr} {u x : Value} (h : w.cell? a = some x) (hne : a.block ≠ C) : (w.setCell ⟨C, i, none⟩ u).cell? a = some x :=
  (World.cell?_of_block (w := w) (Below.heap_setCell w ⟨C, i, none⟩ u a.block hne)).trans h
theorem TS.set {C i : Nat} {u : Value} (h : TS w0 e0 i0 f0 p0 B v w) (hC : w0.heap.size < C) (hne : B ≠ C) : TS w0 e0 i0 f0 p0 B v (w.setCell ⟨C, i, none⟩ u) :=
  ⟨⟨far_cell h.1.1 (by simp; omega), far_cell h.1.2.1 (by simp; omega), far_cell h.1.2.2.1 (by simp; omega), far_cell h.1.2.2.2.1 (by simp; omega), Lib.hid (h.1.2.2.2.2.out.setCell (Nat.le_of_lt hC) u)⟩, far_cell h.2 hne⟩
theorem TS.set4 {C : Nat} {a b c e : Value} (h : TS w0 e0 i0 f0 p0 B v w) (hC : w0.heap.size < C) (hne : B ≠ C) : TS w0 e0 i0 f0 p0 B v ((((w.setCell ⟨C, 0, none⟩ a).setCell ⟨C, 1, none⟩ b).setCell ⟨C, 2, none⟩ c).setCell ⟨C, 3, none⟩ e) :=
  (((h.set hC hne).set hC hne).set hC hne).set hC hne
theorem SecTwo.new {a b c e : Value} {t : TypeId} (h : TS w0 e0 i0 f0 p0 B v (w.alloc (.cells #[a, b, c, e] t))) : SecTwo w0 e0 i0 f0 p0 w.heap.size a b c e (w.alloc (.cells #[a, b, c, e] t)) :=
  ⟨h.1, cell_of (heap_alloc_new w _) rfl, cell_of (heap_alloc_new w _) rfl, cell_of (heap_alloc_new w _) rfl, cell_of (heap_alloc_new w _) rfl⟩
theorem SecTwo.set {C : Nat} {a b c e a' b' c' e' : Value} (h0 : w.cell? ⟨C, 0, none⟩ = some a') (h1 : w.cell? ⟨C, 1, none⟩ = some b') (h2 : w.cell? ⟨C, 2, none⟩ = some c') (h3 : w.cell? ⟨C, 3, none⟩ = some e')
    (h : TS w0 e0 i0 f0 p0 B v ((((w.setCell ⟨C, 0, none⟩ a).setCell ⟨C, 1, none⟩ b).setCell ⟨C, 2, none⟩ c).setCell ⟨C, 3, none⟩ e)) : SecTwo w0 e0 i0 f0 p0 C a b c e ((((w.setCell ⟨C, 0, none⟩ a).setCell ⟨C, 1, none⟩ b).setCell ⟨C, 2, none⟩ c).setCell ⟨C, 3, none⟩ e) := by
  refine ⟨h.1, ?_, ?_, ?_, ?_⟩
  · rw [World.cell?_setCell_other _ _ _ _ (by simp), World.cell?_setCell_other _ _ _ _ (by simp), World.cell?_setCell_other _ _ _ _ (by simp)]; exact World.cell?_setCell_same _ _ _ h0
  · rw [World.cell?_setCell_other _ _ _ _ (by simp), World.cell?_setCell_other _ _ _ _ (by simp)]; exact World.cell?_setCell_same _ _ _ ((World.cell?_setCell_other _ _ _ _ (by simp)).trans h1)
  · rw [World.cell?_setCell_other _ _ _ _ (by simp)]; exact World.cell?_setCell_same _ _ _ ((World.cell?_setCell_other _ _ _ _ (by simp)).trans ((World.cell?_setCell_other _ _ _ _ (by simp)).trans h2))
  · exact World.cell?_setCell_same _ _ _ ((World.cell?_setCell_other _ _ _ _ (by simp)).trans ((World.cell?_setCell_other _ _ _ _ (by simp)).trans ((World.cell?_setCell_other _ _ _ _ (by simp)).trans h3)))
end
theorem turn_ne (b : List UInt8) (k : Nat) (hk : k < b.length) (x : UInt8) (hx : b.getD k 0 ≠ x) : b ≠ b.take k ++ ([x] ++ b.drop (k + 1)) := by
  intro h
  have := congrArg (fun l => l[k]?) h
  rw [List.getElem?_append_right (by rw [List.length_take]; omega), List.length_take, Nat.min_eq_left (by omega), Nat.sub_self, List.getElem?_eq_getElem hk] at this
  rw [List.getD, List.getElem?_eq_getElem hk] at hx
  exact hx (Option.some.inj this)
theorem idx (b : List UInt8) (i : Nat) (x y : Int) (hx : x = i) (h : i < b.length) (hy : ((b.getD i 0).toNat : Int) = y) (w : World) : (Instr.index 9 (.string (mk b)) (.int .i64 x)).run Try.prog w = .ok (.int .u8 y) w := by
  subst hx
  subst hy
  rw [run_index_string (h := Try.underlying9), dif_pos ⟨by omega, by rw [mk_size]; omega⟩, ← mk_get b i (by rw [mk_size]; omega)]
  rfl
theorem bits_xor_u8 (a b : UInt8) : bits .xor .u8 (a.toNat : Int) (b.toNat : Int) = ((a ^^^ b).toNat : Int) := by
  have ha := a.toNat_lt
  have hb := b.toNat_lt
  have hx : a.toNat ^^^ b.toNat < 2 ^ 8 := Nat.xor_lt_two_pow (by omega) (by omega)
  have h1 : (BitVec.ofInt 8 (a.toNat : Int)).toNat = a.toNat := by
    rw [BitVec.ofInt_natCast, BitVec.toNat_ofNat]; exact Nat.mod_eq_of_lt (by omega)
  have h2 : (BitVec.ofInt 8 (b.toNat : Int)).toNat = b.toNat := by
    rw [BitVec.ofInt_natCast, BitVec.toNat_ofNat]; exact Nat.mod_eq_of_lt (by omega)
  show IntKind.u8.wrap ((BitVec.ofInt 8 (a.toNat : Int) ^^^ BitVec.ofInt 8 (b.toNat : Int)).toNat : Int) = _
  rw [BitVec.toNat_xor, h1, h2, IntKind.wrap_u8, UInt8.toNat_xor]
  omega
theorem xor_ne (a x : UInt8) (h : x ≠ 0) : a ≠ a ^^^ x := by
  intro e
  apply h
  have : a ^^^ (a ^^^ x) = a ^^^ a := by rw [← e]
  simpa [← UInt8.xor_assoc] using this

set_option maxRecDepth 100000 in
set_option maxHeartbeats 1600000 in
theorem frameTurned_walk (v : Value) (z : Int × Int × Bool × List UInt8) (n x : Int) (w : World) (hv : IsSec w v z) (w0 : (Lit.int .i64 n).wf = true) (w1 : (Lit.int .u8 x).wf = true) :
    Calls Try.prog 8 #[v, .int .i64 n, .int .u8 x] w fun e w' => e = .returned (.bool true) ∧ Below w.heap.size w w' := by
  obtain ⟨x1, x2⟩ := wf_u8 w1
  obtain ⟨xb, rfl⟩ : ∃ xb : UInt8, x = xb.toNat := ⟨UInt8.ofNat x.toNat, by rw [UInt8.toNat_ofNat', Nat.mod_eq_of_lt (by omega)]; omega⟩
  obtain ⟨rfl, hlb⟩ := hv
  obtain ⟨e, i, f, p⟩ := z
  unfold secA
  simp only at hlb ⊢
  by_cases d1 : 100 < (p.length : Int)
  · go_enter Try.func8, Try.ntmps8
    go_wp2_with fail
    refine (alive_true _).mono ?_
    rintro e w2 ⟨rfl, h2⟩
    go_wp2
    go_ret
    exact ⟨rfl, ((Below.refl _ _).alloc (Nat.le_refl _) _).trans (h2.mono (by simp))⟩
  by_cases d2 : xb = 0
  · subst d2
    go_enter Try.func8, Try.ntmps8
    go_wp2_with fail
    refine (alive_true _).mono ?_
    rintro e w2 ⟨rfl, h2⟩
    go_wp2
    go_ret
    exact ⟨rfl, ((Below.refl _ _).alloc (Nat.le_refl _) _).trans (h2.mono (by simp))⟩
  have d3 : ((xb.toNat : Int) == 0) = false := by
    rw [beq_eq_false_iff_ne]
    intro h
    exact d2 (UInt8.toNat_inj.1 (by simpa using h))
  cases hok : secOk e i p with
  | false =>
    replace hok := Lib.hid hok
    go_enter Try.func8, Try.ntmps8
    go_wp2_with fail
    refine (alive_true _).mono ?_
    rintro en w2 ⟨rfl, h2⟩
    have hS := (SgS.start w e i f p 40).more h2
    obtain ⟨c0, c1, c2, c3, hb2⟩ := hS
    clear h2
    go_wp2_with fail
    refine (put_no e i f p _ (by omega) hok.out).mono ?_
    rintro en w3 ⟨rfl, h3⟩
    go_wp2
    go_ret
    exact ⟨rfl, hb2.out.trans (h3.mono hb2.out.size)⟩
  | true =>
    have hok2 := secOk_iff.1 hok
    obtain ⟨e, rfl⟩ := Int.eq_ofNat_of_zero_le (show 0 ≤ e by omega)
    obtain ⟨i, rfl⟩ := Int.eq_ofNat_of_zero_le (show 0 ≤ i by omega)
    obtain ⟨b, hb⟩ : ∃ b, b = enc e i f p := ⟨_, rfl⟩
    have hbl : b.length = 64 := by rw [hb, enc_length hok2.2.2.2.2.2]
    have hbs : (mk b).size = 64 := by rw [mk_size, hbl]
    have hdb : dec b = some ⟨e, i, f, p⟩ := by rw [hb, dec_enc hok]
    have hq1 := Int.lt_tmod_of_pos n (show (0 : Int) < 64 by omega)
    have hq2 := Int.tmod_lt_of_pos n (show (0 : Int) < 64 by omega)
    obtain ⟨q, hq⟩ : ∃ q, n.tmod 64 = q := ⟨_, rfl⟩
    rw [hq] at hq1 hq2
    obtain ⟨j, hk⟩ : ∃ j : Nat, (q + 64) % 64 = (j : Int) := ⟨((q + 64) % 64).toNat, by rw [Int.toNat_of_nonneg (Int.emod_nonneg _ (by omega))]⟩
    have hk2 : (q + 64).tmod 64 = (j : Int) := by rw [Int.tmod_eq_emod_of_nonneg (by omega), hk]
    have hk3 : j < 64 := by have := Int.emod_lt_of_pos (q + 64) (show (0 : Int) < 64 by omega); omega
    have hkb : j < b.length := by omega
    obtain ⟨y, hy⟩ : ∃ y, y = b.getD j 0 := ⟨_, rfl⟩
    have hs1 := sl_to b j j rfl (by omega)
    have hs2 := sl_from b (j + 1) ((j : Int) + 1) (by push_cast; rfl) (by omega)
    have hwk : IntKind.i64.wrap ((j : Int) + 1) = (j : Int) + 1 := by rw [IntKind.wrap_i64]; omega
    have hlen : (b.take j ++ ([y ^^^ xb] ++ b.drop (j + 1))).length ≤ 1000 := by
      simp only [List.length_append, List.length_take, List.length_drop, List.length_singleton]; omega
    obtain ⟨pa, pb, pc, ps, pf, hpg, hpf⟩ : ∃ pa pb pc ps pf, secV (dec (b.take j ++ ([y ^^^ xb] ++ b.drop (j + 1)))) = .tuple #[.agg #[.int .i64 pa, .int .i64 pb, .bool pc, .string (mk ps)], .bool pf] ∧ (pf = false ∨ ¬ (pa = (e : Int) ∧ pb = (i : Int) ∧ pc = f ∧ ps = p)) := by
      cases hd : dec (b.take j ++ ([y ^^^ xb] ++ b.drop (j + 1))) with
      | none => exact ⟨_, _, _, [], _, rfl, .inl rfl⟩
      | some g =>
        refine ⟨_, _, _, _, _, rfl, .inr ?_⟩
        rintro ⟨g1, g2, g3, g4⟩
        obtain ⟨_, h2, _⟩ := dec_some hd
        refine turn_ne b j hkb _ (by rw [← hy]; exact xor_ne y xb d2) ?_
        rw [← h2, hb, show g.epoch = e by omega, show g.index = i by omega, g3, g4]
    have hix := idx b j j y.toNat rfl hkb (by rw [hy])
    have hxo := bits_xor_u8 y xb
    replace hpg := Lib.hid hpg
    replace hpf := Lib.hid hpf
    replace hdb := Lib.hid hdb
    replace hok := Lib.hid hok
    replace hb := Lib.hid hb
    replace hy := Lib.hid hy
    clear hok2
    go_enter Try.func8, Try.ntmps8
    go_wp2_with fail
    refine (alive_true _).mono ?_
    rintro en w2 ⟨rfl, h2⟩
    have hS := (SgS.start w e i f p 40).more h2
    obtain ⟨c0, c1, c2, c3, hb2⟩ := hS
    clear h2
    go_wp2_with fail
    refine (put_yes e i f p _ hok.out).mono ?_
    rintro en w3 ⟨rfl, h3⟩
    rw [← hb.out]
    have hS8 : SgS w e i f p w3 := SgS.more (w := w2) ⟨c0, c1, c2, c3, hb2⟩ h3
    clear h3 c0 c1 c2 c3 hb2
    go_wp2
    refine wp_region_held_drew (S := SgS w e i f p) (by kernel_rfl) hS8.drew (fun hHeld => ?_)
    refine wpAnyH_take (i := 0) (v := ?_) rfl (by kernel_rfl) (by kernel_rfl) (by kernel_rfl) (fun _ _ _ h => h) (Or.inl ⟨by rfl, ?_⟩) (by assumption) ?_
    rotate_left
    · (intro wS hSw; (try dsimp only at hSw); go_simp; (try with_reducible rfl))
    try simp only [Act.put, List.getElem_toArray, List.getElem_cons_zero, List.setIfInBounds_toArray, List.set_cons_zero, List.set_cons_succ]
    refine wpAnyH_take (i := 1) (v := ?_) rfl (by kernel_rfl) (by kernel_rfl) (by kernel_rfl) (fun _ _ _ h => h) (Or.inl ⟨by rfl, ?_⟩) (by assumption) ?_
    rotate_left
    · (intro wS hSw; (try dsimp only at hSw); go_simp; (try with_reducible rfl))
    try simp only [Act.put, List.getElem_toArray, List.getElem_cons_succ, List.getElem_cons_zero, List.setIfInBounds_toArray, List.set_cons_zero, List.set_cons_succ]
    refine wpAnyH_take (i := 2) (v := ?_) rfl (by kernel_rfl) (by kernel_rfl) (by kernel_rfl) (fun _ _ _ h => h) (Or.inl ⟨by rfl, ?_⟩) (by assumption) ?_
    rotate_left
    · (intro wS hSw; (try dsimp only at hSw); go_simp; (try with_reducible rfl))
    try simp only [Act.put, List.getElem_toArray, List.getElem_cons_succ, List.getElem_cons_zero, List.setIfInBounds_toArray, List.set_cons_zero, List.set_cons_succ]
    refine wpAnyH_take (i := 3) (v := ?_) rfl (by kernel_rfl) (by kernel_rfl) (by kernel_rfl) (fun _ _ _ h => h) (Or.inl ⟨by rfl, ?_⟩) (by assumption) ?_
    rotate_left
    · (intro wS hSw; (try dsimp only at hSw); go_simp; (try with_reducible rfl))
    try simp only [Act.put, List.getElem_toArray, List.getElem_cons_succ, List.getElem_cons_zero, List.setIfInBounds_toArray, List.set_cons_zero, List.set_cons_succ]
    refine wpAnyH_take (i := 4) (v := ?_) rfl (by kernel_rfl) (by kernel_rfl) (by kernel_rfl) (fun _ _ _ h => h) (Or.inl ⟨by rfl, ?_⟩) (by assumption) ?_
    rotate_left
    · (intro wS hSw; (try dsimp only at hSw); go_simp; (try with_reducible rfl))
    try simp only [Act.put, List.getElem_toArray, List.getElem_cons_succ, List.getElem_cons_zero, List.setIfInBounds_toArray, List.set_cons_zero, List.set_cons_succ]
    refine wpAnyH_take (i := 5) (v := ?_) rfl (by kernel_rfl) (by kernel_rfl) (by kernel_rfl) (fun _ _ _ h => h) (Or.inl ⟨by rfl, ?_⟩) (by assumption) ?_
    rotate_left
    · (intro wS hSw; (try dsimp only at hSw); go_simp; (try with_reducible rfl))
    try simp only [Act.put, List.getElem_toArray, List.getElem_cons_succ, List.getElem_cons_zero, List.setIfInBounds_toArray, List.set_cons_zero, List.set_cons_succ]
    refine wpAnyH_take (i := 6) (v := ?_) rfl (by kernel_rfl) (by kernel_rfl) (by kernel_rfl) (fun _ _ _ h => h) (Or.inl ⟨by rfl, ?_⟩) (by assumption) ?_
    rotate_left
    · (intro wS hSw; (try dsimp only at hSw); go_simp; (try with_reducible rfl))
    try simp only [Act.put, List.getElem_toArray, List.getElem_cons_succ, List.getElem_cons_zero, List.setIfInBounds_toArray, List.set_cons_zero, List.set_cons_succ]
    refine wpAnyH_take (i := 7) (v := ?_) rfl (by kernel_rfl) (by kernel_rfl) (by kernel_rfl) (fun _ _ _ h => h) (Or.inl ⟨by rfl, ?_⟩) (by assumption) ?_
    rotate_left
    · (intro wS hSw; (try dsimp only at hSw); go_simp; (try with_reducible rfl))
    try simp only [Act.put, List.getElem_toArray, List.getElem_cons_succ, List.getElem_cons_zero, List.setIfInBounds_toArray, List.set_cons_zero, List.set_cons_succ]
    refine wpAnyH_take (i := 11) (v := ?_) rfl (by kernel_rfl) (by kernel_rfl) (by kernel_rfl) (fun _ _ _ h => h) (Or.inl ⟨by rfl, ?_⟩) (by assumption) ?_
    rotate_left
    · (intro wS hSw; (try dsimp only at hSw); go_simp; (try with_reducible rfl))
    try simp only [Act.put, List.getElem_toArray, List.getElem_cons_succ, List.getElem_cons_zero, List.setIfInBounds_toArray, List.set_cons_zero, List.set_cons_succ]
    refine wpAnyH_take (i := 12) (v := ?_) rfl (by kernel_rfl) (by kernel_rfl) (by kernel_rfl) (fun _ _ _ h => h) (Or.inl ⟨by rfl, ?_⟩) (by assumption) ?_
    rotate_left
    · (intro wS hSw; (try dsimp only at hSw); go_simp; (try with_reducible rfl))
    try simp only [Act.put, List.getElem_toArray, List.getElem_cons_succ, List.getElem_cons_zero, List.setIfInBounds_toArray, List.set_cons_zero, List.set_cons_succ]
    refine wpAnyH_take (i := 13) (v := ?_) rfl (by kernel_rfl) (by kernel_rfl) (by kernel_rfl) (fun _ _ _ h => h) (Or.inl ⟨by rfl, ?_⟩) (by assumption) ?_
    rotate_left
    · (intro wS hSw; (try dsimp only at hSw); go_simp; (try with_reducible rfl))
    try simp only [Act.put, List.getElem_toArray, List.getElem_cons_succ, List.getElem_cons_zero, List.setIfInBounds_toArray, List.set_cons_zero, List.set_cons_succ]
    refine wpAnyH_take (i := 14) (v := ?_) rfl (by kernel_rfl) (by kernel_rfl) (by kernel_rfl) (fun _ _ _ h => h) (Or.inl ⟨by rfl, ?_⟩) (by assumption) ?_
    rotate_left
    · (intro wS hSw; (try dsimp only at hSw); go_simp; (try with_reducible rfl))
    try simp only [Act.put, List.getElem_toArray, List.getElem_cons_succ, List.getElem_cons_zero, List.setIfInBounds_toArray, List.set_cons_zero, List.set_cons_succ]
    refine wpAnyH_ready (rs := [8, 20]) (by kernel_rfl) (by simp) ?_
    refine AllReadyH.cons rfl (fun K hK => ?_) (AllReadyH.cons rfl (fun K hK => ?_) AllReadyH.nil)
    · simp only [List.getElem_toArray, List.getElem_cons_succ, List.getElem_cons_zero]
      go_simp
      refine hK.out _ _ (SgS.alloc (by assumption) _) (fun hHeld => ?_)
      clear hK K
      try simp only [Act.put, List.getElem_toArray, List.getElem_cons_succ, List.getElem_cons_zero, List.setIfInBounds_toArray, List.set_cons_zero, List.set_cons_succ]
      obtain ⟨B, hBe, hG⟩ := (by first | exact SgS.grow1 hHeld | exact SgS.grow1' hHeld)
      (try simp at hBe)
      replace hBe := Lib.hid hBe
      refine wpAnyH_more (S' := TS w e i f p B (.int .u8 (y ^^^ xb).toNat)) (fun _ h => h.1) ?_
      clear hHeld
      have hHeld := hG
      refine wpAnyH_take (i := 9) (v := ?_) rfl (by kernel_rfl) (by kernel_rfl) (by kernel_rfl) (fun _ _ _ h => h) (Or.inl ⟨by rfl, ?_⟩) (by assumption) ?_
      rotate_left
      · (intro wS hSw; (try dsimp only at hSw); have hcv := conv1 (y ^^^ xb) _ _ hSw.2; rw [← hBe.out]; go_simp; (try with_reducible rfl))
      try simp only [Act.put, List.getElem_toArray, List.getElem_cons_succ, List.getElem_cons_zero, List.setIfInBounds_toArray, List.set_cons_zero, List.set_cons_succ]
      refine wpAnyH_take (i := 10) (v := ?_) rfl (by kernel_rfl) (by kernel_rfl) (by kernel_rfl) (fun _ _ _ h => h) (Or.inl ⟨by rfl, ?_⟩) (by assumption) ?_
      rotate_left
      · (intro wS hSw; (try dsimp only at hSw); go_simp; rw [if_neg (by omega)]; (try with_reducible rfl))
      try simp only [Act.put, List.getElem_toArray, List.getElem_cons_succ, List.getElem_cons_zero, List.setIfInBounds_toArray, List.set_cons_zero, List.set_cons_succ]
      refine wpAnyH_take (i := 15) (v := ?_) rfl (by kernel_rfl) (by kernel_rfl) (by kernel_rfl) (fun _ _ _ h => h) (Or.inl ⟨by rfl, ?_⟩) (by assumption) ?_
      rotate_left
      · (intro wS hSw; (try dsimp only at hSw); go_simp; rw [if_neg (by omega)]; (try with_reducible rfl))
      try simp only [Act.put, List.getElem_toArray, List.getElem_cons_succ, List.getElem_cons_zero, List.setIfInBounds_toArray, List.set_cons_zero, List.set_cons_succ]
      refine wpAnyH_ready (rs := [16, 20]) (by kernel_rfl) (by simp) ?_
      refine AllReadyH.cons rfl (fun K hK => ?_) (AllReadyH.cons rfl (fun K hK => ?_) AllReadyH.nil)
      · simp only [List.getElem_toArray, List.getElem_cons_succ, List.getElem_cons_zero]
        go_simp
        (go_at_call 18; refine (get_T (by assumption) hpg.out hlen).mono ?_; rintro en wq ⟨rfl, hq⟩)
        go_wp2_with fail
        refine hK.out _ _ (by assumption) (fun hHeld => ?_)
        clear hK K
        try simp only [Act.put, List.getElem_toArray, List.getElem_cons_succ, List.getElem_cons_zero, List.setIfInBounds_toArray, List.set_cons_zero, List.set_cons_succ]
        refine wpAnyH_take (i := 17) (v := ?_) rfl (by kernel_rfl) (by kernel_rfl) (by kernel_rfl) (fun _ _ _ h => h) (Or.inl ⟨by rfl, ?_⟩) (by assumption) ?_
        rotate_left
        · (intro wS hSw; (try dsimp only at hSw); go_simp; (try with_reducible rfl))
        try simp only [Act.put, List.getElem_toArray, List.getElem_cons_succ, List.getElem_cons_zero, List.setIfInBounds_toArray, List.set_cons_zero, List.set_cons_succ]
        refine wpAnyH_take (i := 18) (v := ?_) rfl (by kernel_rfl) (by kernel_rfl) (by kernel_rfl) (fun _ _ _ h => h) (Or.inl ⟨by rfl, ?_⟩) (by assumption) ?_
        rotate_left
        · (intro wS hSw; (try dsimp only at hSw); go_simp; (try with_reducible rfl))
        try simp only [Act.put, List.getElem_toArray, List.getElem_cons_succ, List.getElem_cons_zero, List.setIfInBounds_toArray, List.set_cons_zero, List.set_cons_succ]
        refine wpAnyH_take (i := 19) (v := ?_) rfl (by kernel_rfl) (by kernel_rfl) (by kernel_rfl) (fun _ _ _ h => h) (Or.inl ⟨by rfl, ?_⟩) (by assumption) ?_
        rotate_left
        · (intro wS hSw; (try dsimp only at hSw); go_simp; (try with_reducible rfl))
        try simp only [Act.put, List.getElem_toArray, List.getElem_cons_succ, List.getElem_cons_zero, List.setIfInBounds_toArray, List.set_cons_zero, List.set_cons_succ]
        refine wpAnyH_ready (rs := [20]) (by kernel_rfl) (by simp) ?_
        refine AllReadyH.cons rfl (fun K hK => ?_) AllReadyH.nil
        · simp only [List.getElem_toArray, List.getElem_cons_succ, List.getElem_cons_zero]
          go_simp
          refine hK.out _ _ (TS.alloc (by assumption) _) (fun hHeld => ?_)
          clear hK K
          try simp only [Act.put, List.getElem_toArray, List.getElem_cons_succ, List.getElem_cons_zero, List.setIfInBounds_toArray, List.set_cons_zero, List.set_cons_succ]
          refine wpAnyH_ready (rs := [21]) (by kernel_rfl) (by simp) ?_
          refine AllReadyH.cons rfl (fun K hK => ?_) AllReadyH.nil
          · simp only [List.getElem_toArray, List.getElem_cons_succ, List.getElem_cons_zero]
            go_simp
            refine hK.out _ _ (TS.alloc (by assumption) _) (fun hHeld => ?_)
            clear hK K
            try simp only [Act.put, List.getElem_toArray, List.getElem_cons_succ, List.getElem_cons_zero, List.setIfInBounds_toArray, List.set_cons_zero, List.set_cons_succ]
            refine wpAnyH_take (i := 22) (v := ?_) rfl (by kernel_rfl) (by kernel_rfl) (by kernel_rfl) (fun _ _ _ h => h) (Or.inl ⟨by rfl, ?_⟩) (by assumption) ?_
            rotate_left
            · (intro wS hSw; (try dsimp only at hSw); go_simp; (try with_reducible rfl))
            try simp only [Act.put, List.getElem_toArray, List.getElem_cons_succ, List.getElem_cons_zero, List.setIfInBounds_toArray, List.set_cons_zero, List.set_cons_succ]
            refine wpAnyH_done (by kernel_rfl) ?_ _
            have hF := SecTwo.new hHeld
            clear hHeld
            (try clear c0 c1 c2 c3 fz)
            generalize World.alloc _ _ = wE at hF ⊢
            obtain ⟨⟨p0, p1, p2, p3, hbe⟩, e0, e1, e2, e3⟩ := hF
            go_wp2_with fail
            refine (get_any b _ _ (by omega) hdb.out).mono ?_
            rintro en w10 ⟨rfl, h10⟩
            rw [secV]
            replace p0 := same_cell h10 p0
            replace p1 := same_cell h10 p1
            replace p2 := same_cell h10 p2
            replace p3 := same_cell h10 p3
            replace e0 := same_cell h10 e0
            replace e1 := same_cell h10 e1
            replace e2 := same_cell h10 e2
            replace e3 := same_cell h10 e3
            replace hbe := Lib.hid (hbe.out.trans (h10.mono hbe.out.size))
            clear h10
            have l1 := World.block_lt_of_cell? w10 _ p0
            have l2 := World.block_lt_of_cell? w10 _ e0
            dsimp only at l1 l2
            dsimp only
            go_wp2
            all_goals first | (go_ret; exact ⟨rfl, hbe.out.alloc hbe.out.size _⟩) | (go_ret; exact ⟨rfl, hbe.out⟩) | (exfalso; have hf := hpf.out; simp_all)
      · simp only [List.getElem_toArray, List.getElem_cons_succ, List.getElem_cons_zero]
        go_simp
        refine hK.out _ _ (TS.alloc (by assumption) _) (fun hHeld => ?_)
        clear hK K
        try simp only [Act.put, List.getElem_toArray, List.getElem_cons_succ, List.getElem_cons_zero, List.setIfInBounds_toArray, List.set_cons_zero, List.set_cons_succ]
        refine wpAnyH_ready (rs := [16]) (by kernel_rfl) (by simp) ?_
        refine AllReadyH.cons rfl (fun K hK => ?_) AllReadyH.nil
        · simp only [List.getElem_toArray, List.getElem_cons_succ, List.getElem_cons_zero]
          go_simp
          (go_at_call 18; refine (get_T2 (by assumption) hpg.out hlen).mono ?_; rintro en wq ⟨rfl, hq, hb⟩)
          go_wp2_with fail
          refine hK.out _ _ (by assumption) (fun hHeld => ?_)
          clear hK K
          try simp only [Act.put, List.getElem_toArray, List.getElem_cons_succ, List.getElem_cons_zero, List.setIfInBounds_toArray, List.set_cons_zero, List.set_cons_succ]
          have hblk := (by first | exact blkA hb | exact blkA' hb)
          obtain ⟨c0, c1, c2, c3, fz⟩ := cells4 hblk
          clear hblk hb
          refine wpAnyH_take (i := 17) (v := ?_) rfl (by kernel_rfl) (by kernel_rfl) (by kernel_rfl) (fun _ _ _ h => h) (Or.inl ⟨by rfl, ?_⟩) (by assumption) ?_
          rotate_left
          · (intro wS hSw; (try dsimp only at hSw); go_simp; (try with_reducible rfl))
          try simp only [Act.put, List.getElem_toArray, List.getElem_cons_succ, List.getElem_cons_zero, List.setIfInBounds_toArray, List.set_cons_zero, List.set_cons_succ]
          refine wpAnyH_take (i := 18) (v := ?_) rfl (by kernel_rfl) (by kernel_rfl) (by kernel_rfl) (fun _ _ _ h => h) (Or.inl ⟨by rfl, ?_⟩) (by assumption) ?_
          rotate_left
          · (intro wS hSw; (try dsimp only at hSw); go_simp; (try with_reducible rfl))
          try simp only [Act.put, List.getElem_toArray, List.getElem_cons_succ, List.getElem_cons_zero, List.setIfInBounds_toArray, List.set_cons_zero, List.set_cons_succ]
          refine wpAnyH_take (i := 19) (v := ?_) rfl (by kernel_rfl) (by kernel_rfl) (by kernel_rfl) (fun _ _ _ h => h) (Or.inl ⟨by rfl, ?_⟩) (by assumption) ?_
          rotate_left
          · (intro wS hSw; (try dsimp only at hSw); go_simp; (try with_reducible rfl))
          try simp only [Act.put, List.getElem_toArray, List.getElem_cons_succ, List.getElem_cons_zero, List.setIfInBounds_toArray, List.set_cons_zero, List.set_cons_succ]
          refine wpAnyH_ready (rs := [21]) (by kernel_rfl) (by simp) ?_
          refine AllReadyH.cons rfl (fun K hK => ?_) AllReadyH.nil
          · simp only [List.getElem_toArray, List.getElem_cons_succ, List.getElem_cons_zero]
            go_simp
            refine hK.out _ _ (TS.set4 (by assumption) (by have := World.block_lt_of_cell? _ _ hS8.1; dsimp only at this; omega) (by have := hBe.out; omega)) (fun hHeld => ?_)
            clear hK K
            try simp only [Act.put, List.getElem_toArray, List.getElem_cons_succ, List.getElem_cons_zero, List.setIfInBounds_toArray, List.set_cons_zero, List.set_cons_succ]
            refine wpAnyH_take (i := 22) (v := ?_) rfl (by kernel_rfl) (by kernel_rfl) (by kernel_rfl) (fun _ _ _ h => h) (Or.inl ⟨by rfl, ?_⟩) (by assumption) ?_
            rotate_left
            · (intro wS hSw; (try dsimp only at hSw); go_simp; (try with_reducible rfl))
            try simp only [Act.put, List.getElem_toArray, List.getElem_cons_succ, List.getElem_cons_zero, List.setIfInBounds_toArray, List.set_cons_zero, List.set_cons_succ]
            refine wpAnyH_done (by kernel_rfl) ?_ _
            have hF := SecTwo.set c0 c1 c2 c3 hHeld
            clear hHeld
            (try clear c0 c1 c2 c3 fz)
            generalize World.setCell _ _ _ = wE at hF ⊢
            obtain ⟨⟨p0, p1, p2, p3, hbe⟩, e0, e1, e2, e3⟩ := hF
            go_wp2_with fail
            refine (get_any b _ _ (by omega) hdb.out).mono ?_
            rintro en w10 ⟨rfl, h10⟩
            rw [secV]
            replace p0 := same_cell h10 p0
            replace p1 := same_cell h10 p1
            replace p2 := same_cell h10 p2
            replace p3 := same_cell h10 p3
            replace e0 := same_cell h10 e0
            replace e1 := same_cell h10 e1
            replace e2 := same_cell h10 e2
            replace e3 := same_cell h10 e3
            replace hbe := Lib.hid (hbe.out.trans (h10.mono hbe.out.size))
            clear h10
            have l1 := World.block_lt_of_cell? w10 _ p0
            have l2 := World.block_lt_of_cell? w10 _ e0
            dsimp only at l1 l2
            dsimp only
            go_wp2
            all_goals first | (go_ret; exact ⟨rfl, hbe.out.alloc hbe.out.size _⟩) | (go_ret; exact ⟨rfl, hbe.out⟩) | (exfalso; have hf := hpf.out; simp_all)
    · simp only [List.getElem_toArray, List.getElem_cons_succ, List.getElem_cons_zero]
      go_simp
      refine hK.out _ _ (SgS.alloc (by assumption) _) (fun hHeld => ?_)
      clear hK K
      try simp only [Act.put, List.getElem_toArray, List.getElem_cons_succ, List.getElem_cons_zero, List.setIfInBounds_toArray, List.set_cons_zero, List.set_cons_succ]
      refine wpAnyH_ready (rs := [8]) (by kernel_rfl) (by simp) ?_
      refine AllReadyH.cons rfl (fun K hK => ?_) AllReadyH.nil
      · simp only [List.getElem_toArray, List.getElem_cons_succ, List.getElem_cons_zero]
        go_simp
        refine hK.out _ _ (SgS.alloc (by assumption) _) (fun hHeld => ?_)
        clear hK K
        try simp only [Act.put, List.getElem_toArray, List.getElem_cons_succ, List.getElem_cons_zero, List.setIfInBounds_toArray, List.set_cons_zero, List.set_cons_succ]
        obtain ⟨B, hBe, hG⟩ := (by first | exact SgS.grow1 hHeld | exact SgS.grow1' hHeld)
        (try simp at hBe)
        replace hBe := Lib.hid hBe
        refine wpAnyH_more (S' := TS w e i f p B (.int .u8 (y ^^^ xb).toNat)) (fun _ h => h.1) ?_
        clear hHeld
        have hHeld := hG
        refine wpAnyH_take (i := 9) (v := ?_) rfl (by kernel_rfl) (by kernel_rfl) (by kernel_rfl) (fun _ _ _ h => h) (Or.inl ⟨by rfl, ?_⟩) (by assumption) ?_
        rotate_left
        · (intro wS hSw; (try dsimp only at hSw); have hcv := conv1 (y ^^^ xb) _ _ hSw.2; rw [← hBe.out]; go_simp; (try with_reducible rfl))
        try simp only [Act.put, List.getElem_toArray, List.getElem_cons_succ, List.getElem_cons_zero, List.setIfInBounds_toArray, List.set_cons_zero, List.set_cons_succ]
        refine wpAnyH_take (i := 10) (v := ?_) rfl (by kernel_rfl) (by kernel_rfl) (by kernel_rfl) (fun _ _ _ h => h) (Or.inl ⟨by rfl, ?_⟩) (by assumption) ?_
        rotate_left
        · (intro wS hSw; (try dsimp only at hSw); go_simp; rw [if_neg (by omega)]; (try with_reducible rfl))
        try simp only [Act.put, List.getElem_toArray, List.getElem_cons_succ, List.getElem_cons_zero, List.setIfInBounds_toArray, List.set_cons_zero, List.set_cons_succ]
        refine wpAnyH_take (i := 15) (v := ?_) rfl (by kernel_rfl) (by kernel_rfl) (by kernel_rfl) (fun _ _ _ h => h) (Or.inl ⟨by rfl, ?_⟩) (by assumption) ?_
        rotate_left
        · (intro wS hSw; (try dsimp only at hSw); go_simp; rw [if_neg (by omega)]; (try with_reducible rfl))
        try simp only [Act.put, List.getElem_toArray, List.getElem_cons_succ, List.getElem_cons_zero, List.setIfInBounds_toArray, List.set_cons_zero, List.set_cons_succ]
        refine wpAnyH_ready (rs := [16]) (by kernel_rfl) (by simp) ?_
        refine AllReadyH.cons rfl (fun K hK => ?_) AllReadyH.nil
        · simp only [List.getElem_toArray, List.getElem_cons_succ, List.getElem_cons_zero]
          go_simp
          (go_at_call 18; refine (get_T2 (by assumption) hpg.out hlen).mono ?_; rintro en wq ⟨rfl, hq, hb⟩)
          go_wp2_with fail
          refine hK.out _ _ (by assumption) (fun hHeld => ?_)
          clear hK K
          try simp only [Act.put, List.getElem_toArray, List.getElem_cons_succ, List.getElem_cons_zero, List.setIfInBounds_toArray, List.set_cons_zero, List.set_cons_succ]
          have hblk := (by first | exact blkB hb | exact blkB' hb)
          obtain ⟨c0, c1, c2, c3, fz⟩ := cells4 hblk
          clear hblk hb
          refine wpAnyH_take (i := 17) (v := ?_) rfl (by kernel_rfl) (by kernel_rfl) (by kernel_rfl) (fun _ _ _ h => h) (Or.inl ⟨by rfl, ?_⟩) (by assumption) ?_
          rotate_left
          · (intro wS hSw; (try dsimp only at hSw); go_simp; (try with_reducible rfl))
          try simp only [Act.put, List.getElem_toArray, List.getElem_cons_succ, List.getElem_cons_zero, List.setIfInBounds_toArray, List.set_cons_zero, List.set_cons_succ]
          refine wpAnyH_take (i := 18) (v := ?_) rfl (by kernel_rfl) (by kernel_rfl) (by kernel_rfl) (fun _ _ _ h => h) (Or.inl ⟨by rfl, ?_⟩) (by assumption) ?_
          rotate_left
          · (intro wS hSw; (try dsimp only at hSw); go_simp; (try with_reducible rfl))
          try simp only [Act.put, List.getElem_toArray, List.getElem_cons_succ, List.getElem_cons_zero, List.setIfInBounds_toArray, List.set_cons_zero, List.set_cons_succ]
          refine wpAnyH_take (i := 19) (v := ?_) rfl (by kernel_rfl) (by kernel_rfl) (by kernel_rfl) (fun _ _ _ h => h) (Or.inl ⟨by rfl, ?_⟩) (by assumption) ?_
          rotate_left
          · (intro wS hSw; (try dsimp only at hSw); go_simp; (try with_reducible rfl))
          try simp only [Act.put, List.getElem_toArray, List.getElem_cons_succ, List.getElem_cons_zero, List.setIfInBounds_toArray, List.set_cons_zero, List.set_cons_succ]
          refine wpAnyH_ready (rs := [21]) (by kernel_rfl) (by simp) ?_
          refine AllReadyH.cons rfl (fun K hK => ?_) AllReadyH.nil
          · simp only [List.getElem_toArray, List.getElem_cons_succ, List.getElem_cons_zero]
            go_simp
            refine hK.out _ _ (TS.set4 (by assumption) (by have := World.block_lt_of_cell? _ _ hS8.1; dsimp only at this; omega) (by have := hBe.out; omega)) (fun hHeld => ?_)
            clear hK K
            try simp only [Act.put, List.getElem_toArray, List.getElem_cons_succ, List.getElem_cons_zero, List.setIfInBounds_toArray, List.set_cons_zero, List.set_cons_succ]
            refine wpAnyH_take (i := 22) (v := ?_) rfl (by kernel_rfl) (by kernel_rfl) (by kernel_rfl) (fun _ _ _ h => h) (Or.inl ⟨by rfl, ?_⟩) (by assumption) ?_
            rotate_left
            · (intro wS hSw; (try dsimp only at hSw); go_simp; (try with_reducible rfl))
            try simp only [Act.put, List.getElem_toArray, List.getElem_cons_succ, List.getElem_cons_zero, List.setIfInBounds_toArray, List.set_cons_zero, List.set_cons_succ]
            refine wpAnyH_done (by kernel_rfl) ?_ _
            have hF := SecTwo.set c0 c1 c2 c3 hHeld
            clear hHeld
            (try clear c0 c1 c2 c3 fz)
            generalize World.setCell _ _ _ = wE at hF ⊢
            obtain ⟨⟨p0, p1, p2, p3, hbe⟩, e0, e1, e2, e3⟩ := hF
            go_wp2_with fail
            refine (get_any b _ _ (by omega) hdb.out).mono ?_
            rintro en w10 ⟨rfl, h10⟩
            rw [secV]
            replace p0 := same_cell h10 p0
            replace p1 := same_cell h10 p1
            replace p2 := same_cell h10 p2
            replace p3 := same_cell h10 p3
            replace e0 := same_cell h10 e0
            replace e1 := same_cell h10 e1
            replace e2 := same_cell h10 e2
            replace e3 := same_cell h10 e3
            replace hbe := Lib.hid (hbe.out.trans (h10.mono hbe.out.size))
            clear h10
            have l1 := World.block_lt_of_cell? w10 _ p0
            have l2 := World.block_lt_of_cell? w10 _ e0
            dsimp only at l1 l2
            dsimp only
            go_wp2
            all_goals first | (go_ret; exact ⟨rfl, hbe.out.alloc hbe.out.size _⟩) | (go_ret; exact ⟨rfl, hbe.out⟩) | (exfalso; have hf := hpf.out; simp_all)
end Go.Proofs.Ytaecfgakgpndaaa
