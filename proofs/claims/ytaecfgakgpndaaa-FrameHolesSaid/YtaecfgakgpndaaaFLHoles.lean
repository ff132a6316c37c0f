/- The walk of the law FrameHoles. No condition. -/
import Derived.Test.YtaecfgakgpndaaaFLHolesP
import Derived.Test.YtaecfgakgpndaaaFLBack
import Derived.Test.YtaecfgakgpndaaaFZer
import Derived.Deep.LoopGhost
import Derived.Deep.RegionHeld3
import Derived.Laws.CopyOwn
import Derived.Maps.RangeWalk
import Derived.Deep.Grids
namespace Go.Proofs.Ytaecfgakgpndaaa
open Go.RowKit
attribute [local go_sem] mk_size mk_append

/-- A row of truths. -/
def KAt (w : World) (a : Option Addr) (ks : List Bool) : Prop := ∀ j (h : j < ks.length), ∃ b o, a = some ⟨b, o, none⟩ ∧ w.cell? ⟨b, o + j, none⟩ = some (.bool ks[j])
theorem KAt.more {w w' : World} {a : Option Addr} {ks : List Bool} (h : KAt w a ks) (hb : Below w.heap.size w w') : KAt w' a ks := fun j hj => by
  obtain ⟨b, o, e, h1⟩ := h j hj
  exact ⟨b, o, e, cell_more hb h1⟩
def IsBools (w : World) (v : Value) (ks : List Bool) : Prop := ∃ a c, v = .slice a ks.length c ∧ KAt w a ks
open Go.WideShapes Go.ChangeShapes Go.Deep in
theorem open_bools1 {H : Type} {enc : TypeId × Value → H} {W : World} {base : Nat} {v : Value} {d : DataW H} {p : List MemPlace}
    (hval : Value.okWide Try.prog W .any base 34 v) (h : DataW.Trod enc Try.prog W 0 (fun _ => true) true 34 v d p) : ∃ ks, IsBools W v ks := by
  obtain ⟨a0, len, cap, rfl⟩ := okWide_slice Try.underlying34 hval
  obtain ⟨fuel, hf⟩ := h
  rcases open_bools Try.underlying34 Try.underlying4 (by kernel_rfl) hf with ⟨hcs, _⟩ | ⟨a, len', cap', F, hcs, _, hl, hm, _, hcell⟩
  · simp [Value.cells] at hcs
    obtain ⟨rfl, rfl, rfl⟩ := hcs
    exact ⟨[], none, 0, rfl, fun j h => by simp at h⟩
  · simp [Value.cells] at hcs
    obtain ⟨rfl, rfl, rfl⟩ := hcs
    refine ⟨(List.range len).map F, some a, cap, by simp, fun j hj => ?_⟩
    have hj' : j < len := by simpa using hj
    have hc := hcell j (by omega)
    obtain ⟨b, o, sp⟩ := a
    have hsp : sp = none := by simpa [Addr.add] using World.cell?_spot (hcell 0 (by omega))
    subst hsp
    refine ⟨b, o, rfl, ?_⟩
    rw [Addr.add_lit] at hc
    rw [hc]
    simp

/-- The disk, whole. -/
def DkAt (w : World) (g : Nat) (D : List (List UInt8)) : Prop := w.heap[g]? = some (.cells (scells D).toArray 9 (0, 0))
theorem DkAt.more {w w' : World} {g : Nat} {D : List (List UInt8)} (h : DkAt w g D) (hb : Below w.heap.size w w') : DkAt w' g D := (hb.block _ (lt_of h)).trans h
theorem DkAt.cell {w : World} {g : Nat} {D : List (List UInt8)} (h : DkAt w g D) {j : Nat} (hj : j < D.length) : w.cell? ⟨g, j, none⟩ = some (.string (mk D[j])) := cell_of h (by simp [scells, hj])
theorem DkAt.row {w : World} {g : Nat} {D : List (List UInt8)} (h : DkAt w g D) : TAt w (some ⟨g, 0, none⟩) D := fun j hj => ⟨g, 0, rfl, by rw [Nat.zero_add]; exact h.cell hj⟩
theorem DkAt.set {w : World} {g : Nat} {D : List (List UInt8)} (h : DkAt w g D) (j : Nat) (x : List UInt8) : DkAt (w.setCell ⟨g, j, none⟩ (.string (mk x))) g (D.set j x) := by
  have h1 := heap_setCell h (.string (mk x)) (i := j)
  unfold DkAt
  rw [h1]
  simp [scells, List.map_set]
theorem disk_made {w w1 : World} {n : Nat} (hn : 0 < n) (hown : w1.ownsRow w.heap.size 9 1 (.slice (some ⟨w.heap.size, 0, none⟩) n n) n (madeCells (Value.string ByteArray.empty).cells (n * 1)).toList) (hgrow : w.grownBy w1 none) :
    Below w.heap.size w w1 ∧ DkAt w1 w.heap.size (List.replicate n []) := by
  refine ⟨(Below.refl _ _).grown hgrow (Nat.le_refl _) (fun _ h => by cases h), ?_⟩
  rw [show (Value.string ByteArray.empty).cells = #[Value.string ByteArray.empty] from rfl, toList_madeCells_one, Nat.mul_one] at hown
  rcases hown.2 with ⟨h, _⟩ | ⟨g, cap, cur, e, _, hh, _, _, hsz, ht⟩
  · cases h
  · cases e
    have hc : cur.toList = scells (List.replicate n []) := by
      rw [Nat.mul_one] at ht hsz
      rw [← List.take_of_length_le (show cur.toList.length ≤ n by rw [Array.length_toList]; omega), ht]
      simp [scells, mk]
      exact .inr rfl
    rw [DkAt, hh, ← hc]

theorem zz_any (w : World) : Calls Try.prog 17 #[.int .i64 64] w fun e w' => e = .returned (.string (mk zz)) ∧ Below w.heap.size w w' := refZeros_any 64 w (by omega)
theorem infoStr1' : (Try.prog.info? 9).map (·.size) = some 1 := by kernel_rfl
theorem copy_disk {w w0 : World} {B g o dl dc sl sc : Nat} {a : Option Addr} {D X : List (List UInt8)} (hD : DkAt w g D) (hX : TAt w a X) (hl : X.length = sl) (hp : 0 < sl) (hle : sl ≤ dl) (hfit : o + sl ≤ D.length) (hb : Below B w0 w) (hBg : B ≤ g) :
    ∃ w', (Builtin.copy_ #[25, 25] 3 #[.slice (some ⟨g, o, none⟩) dl dc, .slice a sl sc]).run Try.prog w = .ok (.int .i64 sl) w' ∧ DkAt w' g (splice D o X) ∧ Below B w0 w' ∧ ∀ k, k ≠ g → w'.heap[k]? = w.heap[k]? := by
  subst hl
  obtain ⟨b, ob, rfl, _⟩ := hX 0 hp
  have hr := run_copy_row (P := Try.prog) w 25 25 3 9 g o dl dc ⟨b, ob, none⟩ X.length sc (scells D).toArray 9 (scells X) Try.underlying25 infoStr1' hD (by rw [scells_length]; exact (Nat.min_eq_left hle).symm) hX.news (by simp [scells]; omega) (scells_one X)
  rw [scells_length] at hr
  refine ⟨_, hr, ?_, below_setRow hb hBg _, fun k hk => setRow_other w g k _ hk⟩
  have h1 := setRow_heap w g (scells D).toArray ((scells D).take o ++ scells X ++ (scells D).drop (o + X.length)).toArray 9 (0, 0) hD
  unfold DkAt
  rw [h1, ← splice_scells, splice, scells_length, List.append_assoc]
theorem infoStr1 : (Try.prog.info? 9).map (·.size) = some 1 := by kernel_rfl
theorem row_form {w : World} {base n : Nat} {v : Value} {l : List (List UInt8)} (h : w.ownsRow base 9 1 v n (scells l)) (hp : 0 < n) : ∃ g c, v = .slice (some ⟨g, 0, none⟩) n c ∧ base ≤ g ∧ n ≤ c ∧ c ≤ maxLen ∧ TAt w (some ⟨g, 0, none⟩) l := by
  obtain ⟨a, c', hv, ht⟩ := TAt.own h
  rcases h.2 with ⟨_, h0⟩ | ⟨g, cap, cur, e, hb, _, hc, hm, _⟩
  · omega
  · rw [hv] at e
    injection e with e1 e2 e3
    subst e1
    exact ⟨g, c', by rw [hv, e2], hb, by omega, by omega, ht⟩
theorem same_n (a1 a2 : Option Addr) (c1 c2 : Nat) (l : List (List UInt8)) (n : Nat) (w : World) (hn : l.length = n) (h1 : TAt w a1 l) (h2 : TAt w a2 l) (hl : n ≤ 1000000000) :
    Calls Try.prog 16 #[.slice a1 n c1, .slice a2 n c2] w fun e w' => e = .returned (.bool true) ∧ Below w.heap.size w w' := by
  subst hn
  exact same_yes a1 a2 c1 c2 l w h1 h2 hl
theorem getD_sec {X : List (List UInt8)} {e i : Nat} {f : Bool} {b : List UInt8} (h : X = secs e i f b) (j : Nat) (hj : j < X.length) : (X.getD j []).length ≤ 140737488351232 := by
  subst h
  rw [List.getD, List.getElem?_eq_getElem hj]
  exact sec_size _ (List.getElem_mem hj)
/-- The first one that lacks, so far. -/
def FLr (F k j fn : Nat) (lb : Bool) : Prop := (F < j ∧ fn = F ∧ lb = true) ∨ (j ≤ F ∧ fn = k ∧ lb = false)
set_option maxRecDepth 100000 in
set_option maxHeartbeats 6400000 in
theorem frameHoles_main (a1 a2 a3 a4 a5 : Option Addr) (c1 c2 c3 c4 c5 : Nat) (A O L G : List (List UInt8)) (K : List Bool) (w : World) (hA : TAt w a1 A) (hO : TAt w a2 O) (hL : TAt w a3 L) (hG : TAt w a4 G) (hK : KAt w a5 K)
    (f1 : fewB A = true) (f2 : fewB O = true) (f3 : fewB L = true) (f4 : fewB G = true) (d1 : K.length ≤ 60) (hc3 : L.length ≤ c3) :
    Calls Try.prog 4 #[.slice a1 A.length c1, .slice a2 O.length c2, .slice a3 L.length c3, .slice a4 G.length c4, .slice a5 K.length c5] w fun e w' => e = .returned (.bool true) ∧ Below w.heap.size w w' := by
  obtain ⟨z1, s1, n1⟩ := few_len f1
  obtain ⟨z2, s2, n2⟩ := few_len f2
  obtain ⟨z3, s3, n3⟩ := few_len f3
  obtain ⟨z4, s4, n4⟩ := few_len f4
  have y1 := Lib.hid (few_bounds f1).2.2
  have y2 := Lib.hid (few_bounds f2).2.2
  have y3 := Lib.hid (few_bounds f3).2.2
  have y4 := Lib.hid (few_bounds f4).2.2
  have d1' : ¬ 60 < (K.length : Int) := by omega
  go_enter Try.func4, Try.ntmps4
  go_wp2_with fail
  refine (few_any a1 c1 A _ hA (by omega) (fun b hb => by have := y1.out b hb; omega)).mono ?_
  rintro e w2 ⟨rfl, rfl⟩
  rw [f1]
  go_wp2_with fail
  refine (few_any a2 c2 O _ hO (by omega) (fun b hb => by have := y2.out b hb; omega)).mono ?_
  rintro e w2 ⟨rfl, rfl⟩
  rw [f2]
  go_wp2_with fail
  refine (few_any a3 c3 L _ hL (by omega) (fun b hb => by have := y3.out b hb; omega)).mono ?_
  rintro e w2 ⟨rfl, rfl⟩
  rw [f3]
  go_wp2_with fail
  refine (few_any a4 c4 G _ hG (by omega) (fun b hb => by have := y4.out b hb; omega)).mono ?_
  rintro e w2 ⟨rfl, rfl⟩
  rw [f4]
  go_wp2_with fail
  refine (alive_true _).mono ?_
  rintro e w2 ⟨rfl, h2⟩
  have q0 : ∀ j (h : j < 4), (w2.alloc (.cells #[.slice a1 A.length c1, .slice a2 O.length c2, .slice a3 L.length c3, .slice a4 G.length c4] 25)).cell? ⟨w2.heap.size, j, none⟩ = #[Value.slice a1 A.length c1, .slice a2 O.length c2, .slice a3 L.length c3, .slice a4 G.length c4][j]? := fun j h => by
    have := cell_of (heap_alloc_new w2 (.cells #[.slice a1 A.length c1, .slice a2 O.length c2, .slice a3 L.length c3, .slice a4 G.length c4] 25)) (i := j) (Array.getElem?_eq_getElem (by simpa using h))
    rw [this]; simp [h]
  have k0 := q0 0 (by omega)
  have k1 := q0 1 (by omega)
  have k2 := q0 2 (by omega)
  have k3 := q0 3 (by omega)
  simp only [List.getElem?_toArray, List.getElem?_cons_zero, List.getElem?_cons_succ] at k0 k1 k2 k3
  replace k0 := Lib.hid k0
  replace k1 := Lib.hid k1
  replace k2 := Lib.hid k2
  replace k3 := Lib.hid k3
  have b2 := Lib.hid ((h2.alloc h2.size (.cells #[.slice a1 A.length c1, .slice a2 O.length c2, .slice a3 L.length c3, .slice a4 G.length c4] 25)))
  clear q0 h2
  go_wp2
  go_loopg [69] 4 (fun g i wr => ∃ k : Nat, g + k = 4 ∧ i = .int .i64 k ∧ Aside ((0 < k → bytesOf A ≠ []) ∧ (1 < k → bytesOf O ≠ []) ∧ (2 < k → bytesOf L ≠ []) ∧ (3 < k → bytesOf G ≠ []) ∧ Below (w2.alloc (.cells #[.slice a1 A.length c1, .slice a2 O.length c2, .slice a3 L.length c3, .slice a4 G.length c4] 25)).heap.size (w2.alloc (.cells #[.slice a1 A.length c1, .slice a2 O.length c2, .slice a3 L.length c3, .slice a4 G.length c4] 25)) wr))
  case atStart => exact ⟨0, rfl, rfl, fun h => absurd h (by omega), fun h => absurd h (by omega), fun h => absurd h (by omega), fun h => absurd h (by omega), Below.refl _ _⟩
  case round =>
    obtain ⟨k, hg, rfl, hI⟩ := hrel
    rcases (show k = 0 ∨ k = 1 ∨ k = 2 ∨ k = 3 ∨ k = 4 by omega) with rfl | rfl | rfl | rfl | rfl
    --@@
    · obtain ⟨i1, i2, i3, i4, hb⟩ := hI.out
      have hc := cell_more hb k0.out
      have hbw := b2.out.trans (hb.mono b2.out.size)
      have ht := Lib.hid (hA.more hbw)
      replace hbw := Lib.hid hbw
      have II := Lib.hid (show _ ∧ _ ∧ _ ∧ _ ∧ _ from ⟨i1, i2, i3, i4, hb⟩)
      clear i1 i2 i3 i4 hb hI
      by_cases e : bytesOf A = []
      · go_wp2_with fail
        refine (count_any a1 c1 A _ (by omega) ht.out).mono ?_
        rintro en w5 ⟨rfl, h5⟩
        rw [e]
        go_wp2
        go_ret
        exact ⟨rfl, hbw.out.trans (h5.mono hbw.out.size)⟩
      · have hpos := List.length_pos_iff.2 e
        have hcn : ((((bytesOf A).length + 55) / 56 : Nat) : Int) ≠ 0 := by omega
        have hcn2 : (((((bytesOf A).length + 55) / 56 : Nat) : Int) == 0) = false := by rw [beq_eq_false_iff_ne]; exact hcn
        obtain ⟨cc, hcc⟩ : ∃ cc : Int, ((((bytesOf A).length + 55) / 56 : Nat) : Int) = cc := ⟨_, rfl⟩
        rw [hcc] at hcn2
        replace e := Lib.hid e
        clear hcn
        go_wp2_with fail
        refine (count_any a1 c1 A _ (by omega) ht.out).mono ?_
        rintro en w5 ⟨rfl, h5⟩
        rw [hcc]
        clear hcc
        go_wp2
        go_roundg 3
        case measure => omega
        case rel =>
          obtain ⟨i1, i2, i3, i4, hb⟩ := II.out
          exact ⟨1, by omega, by go_num, fun _ => e.out, fun h => absurd h (by omega), fun h => absurd h (by omega), fun h => absurd h (by omega), hb.trans (h5.mono hb.size)⟩
    · obtain ⟨i1, i2, i3, i4, hb⟩ := hI.out
      have hc := cell_more hb k1.out
      have hbw := b2.out.trans (hb.mono b2.out.size)
      have ht := Lib.hid (hO.more hbw)
      replace hbw := Lib.hid hbw
      have II := Lib.hid (show _ ∧ _ ∧ _ ∧ _ ∧ _ from ⟨i1, i2, i3, i4, hb⟩)
      clear i1 i2 i3 i4 hb hI
      by_cases e : bytesOf O = []
      · go_wp2_with fail
        refine (count_any a2 c2 O _ (by omega) ht.out).mono ?_
        rintro en w5 ⟨rfl, h5⟩
        rw [e]
        go_wp2
        go_ret
        exact ⟨rfl, hbw.out.trans (h5.mono hbw.out.size)⟩
      · have hpos := List.length_pos_iff.2 e
        have hcn : ((((bytesOf O).length + 55) / 56 : Nat) : Int) ≠ 0 := by omega
        have hcn2 : (((((bytesOf O).length + 55) / 56 : Nat) : Int) == 0) = false := by rw [beq_eq_false_iff_ne]; exact hcn
        obtain ⟨cc, hcc⟩ : ∃ cc : Int, ((((bytesOf O).length + 55) / 56 : Nat) : Int) = cc := ⟨_, rfl⟩
        rw [hcc] at hcn2
        replace e := Lib.hid e
        clear hcn
        go_wp2_with fail
        refine (count_any a2 c2 O _ (by omega) ht.out).mono ?_
        rintro en w5 ⟨rfl, h5⟩
        rw [hcc]
        clear hcc
        go_wp2
        go_roundg 2
        case measure => omega
        case rel =>
          obtain ⟨i1, i2, i3, i4, hb⟩ := II.out
          exact ⟨2, by omega, by go_num, fun _ => i1 (by omega), fun _ => e.out, fun h => absurd h (by omega), fun h => absurd h (by omega), hb.trans (h5.mono hb.size)⟩
    · obtain ⟨i1, i2, i3, i4, hb⟩ := hI.out
      have hc := cell_more hb k2.out
      have hbw := b2.out.trans (hb.mono b2.out.size)
      have ht := Lib.hid (hL.more hbw)
      replace hbw := Lib.hid hbw
      have II := Lib.hid (show _ ∧ _ ∧ _ ∧ _ ∧ _ from ⟨i1, i2, i3, i4, hb⟩)
      clear i1 i2 i3 i4 hb hI
      by_cases e : bytesOf L = []
      · go_wp2_with fail
        refine (count_any a3 c3 L _ (by omega) ht.out).mono ?_
        rintro en w5 ⟨rfl, h5⟩
        rw [e]
        go_wp2
        go_ret
        exact ⟨rfl, hbw.out.trans (h5.mono hbw.out.size)⟩
      · have hpos := List.length_pos_iff.2 e
        have hcn : ((((bytesOf L).length + 55) / 56 : Nat) : Int) ≠ 0 := by omega
        have hcn2 : (((((bytesOf L).length + 55) / 56 : Nat) : Int) == 0) = false := by rw [beq_eq_false_iff_ne]; exact hcn
        obtain ⟨cc, hcc⟩ : ∃ cc : Int, ((((bytesOf L).length + 55) / 56 : Nat) : Int) = cc := ⟨_, rfl⟩
        rw [hcc] at hcn2
        replace e := Lib.hid e
        clear hcn
        go_wp2_with fail
        refine (count_any a3 c3 L _ (by omega) ht.out).mono ?_
        rintro en w5 ⟨rfl, h5⟩
        rw [hcc]
        clear hcc
        go_wp2
        go_roundg 1
        case measure => omega
        case rel =>
          obtain ⟨i1, i2, i3, i4, hb⟩ := II.out
          exact ⟨3, by omega, by go_num, fun _ => i1 (by omega), fun _ => i2 (by omega), fun _ => e.out, fun h => absurd h (by omega), hb.trans (h5.mono hb.size)⟩
    · obtain ⟨i1, i2, i3, i4, hb⟩ := hI.out
      have hc := cell_more hb k3.out
      have hbw := b2.out.trans (hb.mono b2.out.size)
      have ht := Lib.hid (hG.more hbw)
      replace hbw := Lib.hid hbw
      have II := Lib.hid (show _ ∧ _ ∧ _ ∧ _ ∧ _ from ⟨i1, i2, i3, i4, hb⟩)
      clear i1 i2 i3 i4 hb hI
      by_cases e : bytesOf G = []
      · go_wp2_with fail
        refine (count_any a4 c4 G _ (by omega) ht.out).mono ?_
        rintro en w5 ⟨rfl, h5⟩
        rw [e]
        go_wp2
        go_ret
        exact ⟨rfl, hbw.out.trans (h5.mono hbw.out.size)⟩
      · have hpos := List.length_pos_iff.2 e
        have hcn : ((((bytesOf G).length + 55) / 56 : Nat) : Int) ≠ 0 := by omega
        have hcn2 : (((((bytesOf G).length + 55) / 56 : Nat) : Int) == 0) = false := by rw [beq_eq_false_iff_ne]; exact hcn
        obtain ⟨cc, hcc⟩ : ∃ cc : Int, ((((bytesOf G).length + 55) / 56 : Nat) : Int) = cc := ⟨_, rfl⟩
        rw [hcc] at hcn2
        replace e := Lib.hid e
        clear hcn
        go_wp2_with fail
        refine (count_any a4 c4 G _ (by omega) ht.out).mono ?_
        rintro en w5 ⟨rfl, h5⟩
        rw [hcc]
        clear hcc
        go_wp2
        go_roundg 0
        case measure => omega
        case rel =>
          obtain ⟨i1, i2, i3, i4, hb⟩ := II.out
          exact ⟨4, by omega, by go_num, fun _ => i1 (by omega), fun _ => i2 (by omega), fun _ => i3 (by omega), fun _ => e.out, hb.trans (h5.mono hb.size)⟩
    · obtain ⟨i1, i2, i3, i4, hb⟩ := hI.out
      replace i1 := i1 (by omega)
      replace i2 := i2 (by omega)
      replace i3 := i3 (by omega)
      replace i4 := i4 (by omega)
      have ok1 : recsOk A := by by_cases h : recsOk A; exact h; exact absurd (bytesOf_bad h) i1
      have ok2 : recsOk O := by by_cases h : recsOk O; exact h; exact absurd (bytesOf_bad h) i2
      have ok3 : recsOk L := by by_cases h : recsOk L; exact h; exact absurd (bytesOf_bad h) i3
      have ok4 : recsOk G := by by_cases h : recsOk G; exact h; exact absurd (bytesOf_bad h) i4
      have ne1 : A ≠ [] := by intro h; subst h; exact i1 (by decide)
      have ne2 : O ≠ [] := by intro h; subst h; exact i2 (by decide)
      have ne3 : L ≠ [] := by intro h; subst h; exact i3 (by decide)
      have ne4 : G ≠ [] := by intro h; subst h; exact i4 (by decide)
      have p1 : 1 ≤ cnt A := by have := List.length_pos_iff.2 (stream_ne ne1); rw [cnt]; omega
      have p2 : 1 ≤ cnt O := by have := List.length_pos_iff.2 (stream_ne ne2); rw [cnt]; omega
      have p3 : 1 ≤ cnt L := by have := List.length_pos_iff.2 (stream_ne ne3); rw [cnt]; omega
      have p4 : 1 ≤ cnt G := by have := List.length_pos_iff.2 (stream_ne ne4); rw [cnt]; omega
      have hbw := b2.out.trans (hb.mono b2.out.size)
      have tA := Lib.hid (hA.more hbw)
      replace hbw := Lib.hid hbw
      replace ok1 := Lib.hid ok1
      replace ok2 := Lib.hid ok2
      replace ok3 := Lib.hid ok3
      replace ok4 := Lib.hid ok4
      replace ne1 := Lib.hid ne1
      replace ne2 := Lib.hid ne2
      replace ne3 := Lib.hid ne3
      replace ne4 := Lib.hid ne4
      replace hA := Lib.hid hA
      replace hO := Lib.hid hO
      replace hL := Lib.hid hL
      replace hG := Lib.hid hG
      replace hK := Lib.hid hK
      clear i1 i2 i3 i4 hb hI k0 k1 k2 k3 b2
      obtain ⟨SA, hSA⟩ : ∃ SA, SA = secs 1 0 true (stream A) := ⟨_, rfl⟩
      obtain ⟨n, hn⟩ : ∃ n, n = cnt A := ⟨_, rfl⟩
      have lA : SA.length = n := by rw [hSA, secs_len, hn]; rfl
      rw [← hn] at n1 p1
      obtain ⟨SO, hSO⟩ : ∃ SO, SO = secs 2 n true (stream O) := ⟨_, rfl⟩
      obtain ⟨SL, hSL⟩ : ∃ SL, SL = secs 3 n true (stream L) := ⟨_, rfl⟩
      have lO : SO.length = cnt O := by rw [hSO, secs_len]; rfl
      have lL : SL.length = cnt L := by rw [hSL, secs_len]; rfl
      obtain ⟨nO, hnO⟩ : ∃ nO, nO = cnt O := ⟨_, rfl⟩
      obtain ⟨nL, hnL⟩ : ∃ nL, nL = cnt L := ⟨_, rfl⟩
      rw [← hnO] at n2 lO p2
      rw [← hnL] at n3 lL p3
      replace hn := Lib.hid hn
      replace hnO := Lib.hid hnO
      replace hnL := Lib.hid hnL
      replace hSA := Lib.hid hSA
      replace hSO := Lib.hid hSO
      replace hSL := Lib.hid hSL
      replace lA := Lib.hid lA
      replace lO := Lib.hid lO
      replace lL := Lib.hid lL
      go_wp2_with fail
      refine (batch_yes2 1 0 _ _ a1 c1 A _ rfl rfl (by omega) tA.out ok1.out ne1.out (by omega) (by omega) (by rw [← hn.out]; omega)).mono ?_
      rintro en w3 ⟨v3, rfl, ho3, h3⟩
      rw [← hSA.out] at ho3
      obtain ⟨b1, e1, rfl, t1⟩ := TAt.own ho3
      rw [lA.out]
      replace t1 := Lib.hid t1
      have hb3 := hbw.out.trans (h3.mono hbw.out.size)
      have tO := Lib.hid (hO.out.more hb3)
      replace hb3 := Lib.hid hb3
      clear ho3 h3 hbw tA
      go_wp2_with fail
      refine (batch_yes2 2 n _ _ a2 c2 O _ rfl rfl (by omega) tO.out ok2.out ne2.out (by omega) (by omega) (by rw [← hnO.out]; omega)).mono ?_
      rintro en w4 ⟨v4, rfl, ho4, h4⟩
      rw [← hSO.out] at ho4
      obtain ⟨b2, e2, rfl, t2⟩ := TAt.own ho4
      rw [lO.out]
      replace t2 := Lib.hid t2
      have hb4 := hb3.out.trans (h4.mono hb3.out.size)
      have tL := Lib.hid (hL.out.more hb4)
      replace hb4 := Lib.hid hb4
      have h34 := Lib.hid h4
      clear ho4 h4 hb3 tO
      go_wp2_with fail
      refine (batch_yes2 3 n _ _ a3 c3 L _ rfl rfl (by omega) tL.out ok3.out ne3.out (by omega) (by omega) (by rw [← hnL.out]; omega)).mono ?_
      rintro en w5 ⟨v5, rfl, ho5, h5⟩
      rw [← hSL.out] at ho5
      obtain ⟨b3, e3, rfl, t3⟩ := TAt.own ho5
      rw [lL.out]
      -- all rows, as they are now
      have R1 := Lib.hid ((t1.out.more h34.out).more h5)
      have R2 := Lib.hid (t2.out.more h5)
      have R3 := Lib.hid t3
      have hb5 := Lib.hid (hb4.out.trans (h5.mono hb4.out.size))
      clear ho5 h5 hb4 tL t1 t2 t3 h34
      obtain ⟨ii, hi0, hz0, hz1, hz2⟩ := info_parts Try.infoStr
      go_wp2_with (at_make; refine wpList_make_full _ rfl _ _ 25 rfl w5.heap.size 9 ii (.string ByteArray.empty) 1 Try.underlying25 hi0 hz0 hz1 _ _ _ _ 120 rfl rfl rfl rfl (by rw [hz2]; omega) (by unfold maxLen; omega) (Nat.le_refl _) ?_; intro w6 hown hgrow; have hD := disk_made (by omega) hown hgrow; have hb6 := Lib.hid hD.1; have D6 := Lib.hid hD.2; clear hD hown hgrow)
      go_wp2
      go_loopg [101] 120 (fun g i wr => ∃ k : Nat, g + k = 120 ∧ i = .int .i64 k ∧ Aside (DkAt wr w5.heap.size (List.replicate k zz ++ List.replicate (120 - k) []) ∧ Below w5.heap.size w5 wr))
      case atStart => exact ⟨0, rfl, rfl, D6.out, hb6.out⟩
      case round =>
        obtain ⟨k, hg, rfl, hI⟩ := hrel
        by_cases hlt : k < 120
        · have hI2 := Lib.hid (show _ ∧ _ from hI.out)
          have hki : (k : Int) < 120 := by omega
          clear hI D6 hb6
          go_wp2_with fail
          refine (zz_any _).mono ?_
          rintro en w7 ⟨rfl, h7⟩
          have D7 := hI2.out.1.more h7
          have hb7 := Lib.hid (hI2.out.2.trans (h7.mono hI2.out.2.size))
          have hcw : w7.cell? ⟨w5.heap.size, k, none⟩ = some _ := D7.cell (j := k) (by simp; omega)
          have hfz := free_of (i := k) D7
          replace D7 := Lib.hid D7
          clear hI2 h7
          go_wp2
          go_roundg (120 - (k + 1))
          case measure => omega
          case rel => exact ⟨k + 1, by omega, by go_num, by rw [← fill_step k hlt]; exact D7.out.set k zz, hb7.out.setCell (Nat.le_refl _) _⟩
        · obtain rfl : k = 120 := by omega
          obtain ⟨D8, hb8⟩ := hI.out
          rw [Nat.sub_self, List.replicate_zero, List.append_nil] at D8
          obtain ⟨Z, hZ⟩ : ∃ Z, Z = List.replicate 120 zz := ⟨_, rfl⟩
          rw [← hZ] at D8
          have lZ : Z.length = 120 := by rw [hZ, List.length_replicate]
          have hst := fun kf => over_start (kf := kf) (M := 120) (by omega) (SL := SL) lA.out (by rw [lO.out]; exact n2) n1
          rw [← hZ] at hst
          have lsA : (splice Z 0 SA).length = 120 := by rw [length_splice _ _ _ (by rw [lA.out, lZ]; omega), lZ]
          obtain ⟨w9, x9, D9, hb9, k9⟩ := copy_disk (o := 0) (dl := 120) (dc := 120) (sc := e1) D8 (R1.out.more hb8) lA.out (by omega) (by omega) (by rw [lZ]; omega) hb8 (Nat.le_refl _)
          obtain ⟨w10, x10, D10, hb10, k10⟩ := copy_disk (o := n) (dl := 120 - n) (dc := 120 - n) (sc := e2) D9 (R2.out.more hb9) lO.out (by omega) (by omega) (by rw [lsA]; omega) hb9 (Nat.le_refl _)
          rw [hst (fun i => K.getD i false)] at D10
          have h120 : ¬ 120 = n := by omega
          have hn0 : (0 : Int) ≤ n := by omega
          have hnm : (n : Int) ≤ 120 := by omega
          obtain ⟨kf, hkf⟩ : ∃ kf : Nat → Bool, kf = fun i => K.getD i false := ⟨_, rfl⟩
          rw [← hkf] at D10
          replace hkf := Lib.hid hkf
          have hK5 := Lib.hid (hK.out.more hb5.out)
          replace D10 := Lib.hid D10
          replace hb10 := Lib.hid hb10
          clear hI D6 hb6 D8 hb8 D9 hb9 k9 k10 hst lZ hZ lsA
          go_wp2
          go_loopg [119] nL (fun g i wr => ∃ k : Nat, g + k = nL ∧ i = .int .i64 k ∧ Aside (DkAt wr w5.heap.size (SA ++ over (keptTo kf k) SL SO (120 - n)) ∧ Below w5.heap.size w5 wr))
          case atStart => exact ⟨0, rfl, rfl, D10.out, hb10.out⟩
          case round =>
            obtain ⟨k, hg, rfl, hI⟩ := hrel
            by_cases hlt : k < nL
            · have hkL : k < SL.length := by rw [lL.out]; exact hlt
              obtain ⟨bs, os, rfl, hcs⟩ := R3.out k hkL
              obtain ⟨x, hx⟩ : ∃ x, x = SL[k] := ⟨_, rfl⟩
              rw [← hx] at hcs
              have hcx := cell_more hI.out.2 hcs
              have hD := hI.out.1
              have hcd := hD.cell (j := n + k) (by rw [List.length_append, over_length, lA.out]; omega)
              have hfz := free_of (i := n + k) hD
              have hset := hD.set (n + k) x
              have hI2 := Lib.hid (show _ ∧ _ from hI.out)
              obtain ⟨xd, hxd⟩ : ∃ xd, xd = (SA ++ over (keptTo kf k) SL SO (120 - n))[n + k]'(by rw [List.length_append, over_length, lA.out]; omega) := ⟨_, rfl⟩
              rw [← hxd] at hcd
              have hki : (k : Int) < nL := by omega
              have hnk : (n : Int) + k < 120 := by omega
              have hnk0 : (0 : Int) ≤ (n : Int) + k := by omega
              replace hx := Lib.hid hx
              replace hxd := Lib.hid hxd
              replace hset := Lib.hid hset
              clear hD hI hcs D10 hb10
              by_cases hkl : k < K.length
              · obtain ⟨bk, ok, rfl, hck⟩ := hK5.out k hkl
                have hck2 := cell_more hI2.out.2 hck
                have hki2 : (k : Int) < K.length := by omega
                have hkv : kf k = K[k] := by rw [hkf.out]; simp [List.getD, hkl]
                obtain ⟨kv, hkv2⟩ : ∃ kv, kv = K[k] := ⟨_, rfl⟩
                rw [← hkv2] at hck2 hkv
                replace hkv2 := Lib.hid hkv2
                clear hck
                cases kv with
                | true =>
                  replace hkv := Lib.hid hkv
                  go_wp2
                  go_roundg (nL - (k + 1))
                  case measure => omega
                  case rel => exact ⟨k + 1, by omega, by go_num, by rw [← over_keep lA.out hkL (by omega) hkv.out, ← hx.out]; exact hset.out, hI2.out.2.setCell (Nat.le_refl _) _⟩
                | false =>
                  replace hkv := Lib.hid hkv
                  go_wp2
                  go_roundg (nL - (k + 1))
                  case measure => omega
                  case rel => exact ⟨k + 1, by omega, by go_num, by rw [← over_skip hkv.out]; exact hI2.out.1, hI2.out.2⟩
              · have hki2 : ¬ (k : Int) < K.length := by omega
                have hkv : kf k = false := by rw [hkf.out]; simp [List.getD, List.getElem?_eq_none (show K.length ≤ k by omega)]
                replace hkv := Lib.hid hkv
                go_wp2
                go_roundg (nL - (k + 1))
                case measure => omega
                case rel => exact ⟨k + 1, by omega, by go_num, by rw [← over_skip hkv.out]; exact hI2.out.1, hI2.out.2⟩
            · obtain rfl : k = nL := by omega
              obtain ⟨D12, hb12⟩ := hI.out
              have hov := over_all (kf := kf) (SO := SO) (SL := SL) (N := 120 - n)
              rw [lL.out] at hov
              rw [hov] at D12
              replace D12 := Lib.hid D12
              replace hb12 := Lib.hid hb12
              obtain ⟨F, hF⟩ : ∃ F, F = firstOf kf k 0 := ⟨_, rfl⟩
              obtain ⟨g1, g2, g3, g4⟩ := firstOf_spec kf k 0
              rw [← hF, Nat.zero_add] at g2 g4
              rw [← hF] at g3
              replace g3 := Lib.hid g3
              replace g4 := Lib.hid g4
              replace hF := Lib.hid hF
              clear hI hov D10 hb10 g1
              go_wp2
              go_loopg [146, 23, 24] k (fun g i fv lv wx => ∃ (j fn : Nat) (lb : Bool), g + j = k ∧ i = .int .i64 j ∧ fv = .int .i64 fn ∧ lv = .bool lb ∧ FLr F k j fn lb ∧ Aside (DkAt wx w5.heap.size (SA ++ over kf SL SO (120 - n)) ∧ Below w5.heap.size w5 wx))
              case atStart => exact ⟨0, k, false, rfl, rfl, rfl, rfl, .inr ⟨Nat.zero_le _, rfl, rfl⟩, D12.out, hb12.out⟩
              case round =>
                obtain ⟨j, fn, lb, hgj, rfl, rfl, rfl, hI1, hI2⟩ := hrel
                replace hI2 := Lib.hid (show _ ∧ _ from hI2.out)
                by_cases hlt2 : j < k
                · have hki : (j : Int) < k := by omega
                  rcases hI1 with ⟨u1, u2, u3⟩ | ⟨u1, u2, u3⟩
                  · have hfin : FLr F k (j + 1) fn lb := .inl ⟨by omega, u2, u3⟩
                    subst u3
                    clear u2
                    go_wp2
                    go_roundg (k - (j + 1))
                    case measure => omega
                    case rel => exact ⟨j + 1, fn, true, by omega, by go_num, rfl, rfl, hfin, hI2.out⟩
                  · have hkv : kf j = decide (j < F) := by
                      by_cases e : j < F
                      · rw [g3.out j (Nat.zero_le _) e, decide_eq_true e]
                      · have e2 : j = F := by omega
                        rw [decide_eq_false e, e2]
                        exact g4.out (by omega)
                    have hfin : ∀ fn' lb', (j < F → fn' = fn ∧ lb' = false) → (¬ j < F → fn' = j ∧ lb' = true) → FLr F k (j + 1) fn' lb' := by
                      intro fn' lb' h1 h2
                      by_cases e : j < F
                      · exact .inr ⟨by omega, by rw [(h1 e).1, u2], (h1 e).2⟩
                      · exact .inl ⟨by omega, by rw [(h2 e).1]; omega, (h2 e).2⟩
                    subst u3
                    replace hfin := Lib.hid hfin
                    clear u2
                    by_cases hkl : j < K.length
                    · obtain ⟨bk, ok, rfl, hck⟩ := hK5.out j hkl
                      have hck2 := cell_more hI2.out.2 hck
                      have hki2 : (j : Int) < K.length := by omega
                      rw [show kf j = K[j] by rw [hkf.out]; simp [List.getD, hkl]] at hkv
                      rw [hkv] at hck2
                      clear hck
                      by_cases e : j < F
                      · rw [decide_eq_true e] at hck2
                        have hf2 := hfin.out fn false (fun _ => ⟨rfl, rfl⟩) (fun h => absurd e h)
                        clear hkv
                        go_wp2
                        go_roundg (k - (j + 1))
                        case measure => omega
                        case rel => exact ⟨j + 1, fn, false, by omega, by go_num, rfl, rfl, hf2, hI2.out⟩
                      · rw [decide_eq_false e] at hck2
                        have hf2 := hfin.out j true (fun h => absurd h e) (fun _ => ⟨rfl, rfl⟩)
                        clear hkv
                        go_wp2
                        go_roundg (k - (j + 1))
                        case measure => omega
                        case rel => exact ⟨j + 1, j, true, by omega, by go_num, rfl, rfl, hf2, hI2.out⟩
                    · have hki2 : ¬ (j : Int) < K.length := by omega
                      rw [show kf j = false by rw [hkf.out]; simp [List.getD, List.getElem?_eq_none (show K.length ≤ j by omega)]] at hkv
                      have e : ¬ j < F := fun h => by rw [decide_eq_true h] at hkv; cases hkv
                      have hf2 := hfin.out j true (fun h => absurd h e) (fun _ => ⟨rfl, rfl⟩)
                      clear hkv
                      go_wp2
                      go_roundg (k - (j + 1))
                      case measure => omega
                      case rel => exact ⟨j + 1, j, true, by omega, by go_num, rfl, rfl, hf2, hI2.out⟩
                · obtain rfl : j = k := by omega
                  have hfl : fn = F ∧ (lb = false → F = j) := by
                    rcases hI1 with ⟨u1, u2, u3⟩ | ⟨u1, u2, u3⟩
                    · exact ⟨u2, fun h => by rw [u3] at h; cases h⟩
                    · exact ⟨by omega, fun _ => by omega⟩
                  obtain ⟨rfl, hlb⟩ := hfl
                  obtain ⟨D13, hb13⟩ := hI2.out
                  obtain ⟨rest, hrl, hrest⟩ := disk_read (kf := kf) (N := 120 - n) ok1.out ne1.out hn.out ok3.out ne3.out (by rw [← hnO.out]; omega) (by rw [← hnL.out]; omega) (by rw [← hnL.out]; omega)
                  have hdd := disk_dec (kf := kf) (n := n) (N := 120 - n) (A := A) (L := L) (O := O) (by rw [← hn.out]; omega) (by rw [← hnO.out]; omega) (by rw [← hnL.out]; omega)
                  rw [← hSA.out, ← hSO.out, ← hSL.out] at hrl hdd
                  rw [← hnL.out, ← hF.out] at hrest
                  obtain ⟨D, hDe⟩ : ∃ D, D = SA ++ over kf SL SO (120 - n) := ⟨_, rfl⟩
                  rw [← hDe] at hrl hdd D13
                  have lD : D.length = 120 := by rw [hDe, List.length_append, over_length, lA.out]; omega
                  have hcount := scan_count D st0
                  have hlastb := scan_last D st0 3 hdd (by simp [st0])
                  obtain ⟨hend, _⟩ := scan_upto0 D
                  have hag := fun (G : List (List UInt8)) (e : Nat) (h1 : 3 < e) (h2 : e ≤ 4294967295) (h3 : recsOk G) (h4 : G ≠ []) (h5 : (scan st0 D).end_ + cnt G ≤ 65536) => scan_again hdd h1 h2 h3 h4 h5
                  have hst0 : st0.l.length + st0.b.length = 0 := rfl
                  have hDz : ∀ b ∈ D, b.length ≤ 140737488351232 := by
                    intro b hb
                    rw [hDe] at hb
                    rcases List.mem_append.1 hb with h | h
                    · rw [hSA.out] at h; exact sec_size b h
                    · obtain ⟨i, _, rfl⟩ := List.mem_map.1 h
                      split
                      · rename_i h2
                        have h3 := h2.1
                        exact getD_sec hSL.out i h3
                      · split
                        · rename_i h2
                          exact getD_sec hSO.out i h2
                        · simp
                  obtain ⟨r, hr⟩ : ∃ r, scan st0 D = r := ⟨_, rfl⟩
                  rw [hr] at hrl hcount hlastb hend hag
                  rw [lD] at hcount hend
                  have hrll : r.l.length = A.length + rest.length := by rw [hrl, List.length_append]
                  have hcount2 : A.length + rest.length ≤ 6720 := by rw [← hrll]; simp only [st0, List.length_nil] at hcount; omega
                  clear hcount
                  replace hag := Lib.hid hag
                  replace hdd := Lib.hid hdd
                  replace hrest := Lib.hid hrest
                  replace hrl := Lib.hid hrl
                  replace hr := Lib.hid hr
                  replace hDe := Lib.hid hDe
                  replace lD := Lib.hid lD
                  replace hlb := Lib.hid hlb
                  replace hDz := Lib.hid hDz
                  have D13h := Lib.hid D13
                  have hb13h := Lib.hid hb13
                  clear hI2 D12 hb12 hst0 D13 hb13
                  go_wp2_with fail
                  refine (scan_n (some ⟨w5.heap.size, 0, none⟩) 120 _ D r _ lD.out (by rw [lD.out]; omega) hDz.out D13h.out.row hr.out).mono ?_
                  rintro en w14 ⟨vr, rfl, ho14, h14⟩
                  have hAp := List.length_pos_iff.2 ne1.out
                  obtain ⟨g14, c14, hvr, hg14, hl14, hm14, t14⟩ := row_form ho14 (by rw [hrll]; omega)
                  rw [hvr, hrll]
                  have hbw := hb13h.out.trans (h14.mono hb13h.out.size)
                  have tR := Lib.hid t14
                  have tA14 := Lib.hid (hA.out.more (hb5.out.trans (hbw.mono hb5.out.size)))
                  have tA14r := Lib.hid (show TAt w14 (some ⟨g14, 0, none⟩) A from by have := t14.take A.length; rwa [hrl.out, List.take_left'] at this; rfl)
                  obtain ⟨o14, ho14e⟩ : ∃ o14, o14 = if c14 = A.length then 0 else A.length := ⟨_, rfl⟩
                  have hif : (if c14 = A.length then some (⟨g14, 0, none⟩ : Addr) else some ⟨g14, A.length, none⟩) = some ⟨g14, o14, none⟩ := by rw [ho14e]; split <;> rfl
                  have tRest := Lib.hid (show TAt w14 (some ⟨g14, o14, none⟩) rest from fun j hj => by
                    have hne : ¬ c14 = A.length := by omega
                    rw [ho14e, if_neg hne]
                    obtain ⟨b, o, e, hc⟩ := t14 (A.length + j) (by omega)
                    cases e
                    refine ⟨_, _, rfl, ?_⟩
                    rw [Nat.zero_add] at hc
                    rw [hc]
                    simp [hrl.out])
                  have hgg : w5.heap.size < g14 := Nat.lt_of_lt_of_le (lt_of D13h.out) hg14
                  have hca : (A.length : Int) ≤ c14 := by omega
                  have hca2 : (A.length : Int) ≤ (A.length : Int) + rest.length := by omega
                  have hrA : ¬ ((A.length : Int) + rest.length < A.length) := by omega
                  have hD14 := Lib.hid (D13h.out.more h14)
                  have hb14 := Lib.hid hbw
                  replace hrll := Lib.hid hrll
                  replace ho14e := Lib.hid ho14e
                  clear t14 ho14 hvr hbw h14 D13h hb13h
                  go_wp2_with fail
                  refine (same_yes (some ⟨g14, 0, none⟩) a1 c14 c1 A _ tA14r.out tA14.out (by omega)).mono ?_
                  rintro en w15 ⟨rfl, h15⟩
                  have hb15 := Lib.hid h15
                  clear h15
                  have hcase : (fn = 0) ∨ (0 < fn ∧ lb = true) ∨ (0 < fn ∧ lb = false) := by
                    rcases Nat.eq_zero_or_pos fn with h | h
                    · exact .inl h
                    · cases lb
                      · exact .inr (.inr ⟨h, rfl⟩)
                      · exact .inr (.inl ⟨h, rfl⟩)
                  rcases hcase with hc0 | ⟨hc0, hc1⟩ | ⟨hc0, hc1⟩
                  case' inl =>
                    have hcz : ¬ (0 : Int) < fn := by omega
                    replace hc0 := Lib.hid hc0
                    have hbT := Lib.hid hb15.out
                    clear hb15
                    go_wp2_with fail
                  case' inr.inl =>
                    obtain ⟨m, hm, hfull⟩ := hrest.out hc0
                    have hlr : rest.length ≤ L.length := by rw [← hm, List.length_append]; omega
                    have tL15 := Lib.hid (show TAt w15 a3 rest from by have := (hL.out.more (hb5.out.trans ((hb14.out.trans (hb15.out.mono hb14.out.size)).mono hb5.out.size))).take rest.length; rwa [← hm, List.take_left'] at this; rfl)
                    have tR15 := Lib.hid (tRest.out.more hb15.out)
                    have hcz : (0 : Int) < fn := by omega
                    have hrl2 : ¬ (L.length : Int) < rest.length := by omega
                    have hrc : (rest.length : Int) ≤ c3 := by omega
                    subst hc1
                    replace hm := Lib.hid hm
                    replace hfull := Lib.hid hfull
                    replace hc0 := Lib.hid hc0
                    go_wp2_with fail
                    refine (same_yes (some ⟨g14, o14, none⟩) a3 _ c3 rest _ tR15.out tL15.out (by omega)).mono ?_
                    rintro en w16 ⟨rfl, h16⟩
                    have hbT := Lib.hid (hb15.out.trans (h16.mono hb15.out.size))
                    clear h16 hb15 tL15 tR15
                    go_wp2_with fail
                  case' inr.inr =>
                    obtain ⟨m, hm, hfull⟩ := hrest.out hc0
                    have hlr : rest.length = L.length := by rw [hfull (hlb.out hc1)]
                    have tL15 := Lib.hid (show TAt w15 a3 rest from by have := (hL.out.more (hb5.out.trans ((hb14.out.trans (hb15.out.mono hb14.out.size)).mono hb5.out.size))).take rest.length; rwa [← hm, List.take_left'] at this; rfl)
                    have tR15 := Lib.hid (tRest.out.more hb15.out)
                    have hcz : (0 : Int) < fn := by omega
                    have hrl2 : ¬ (L.length : Int) < rest.length := by omega
                    have hrc : (rest.length : Int) ≤ c3 := by omega
                    have hne : ((rest.length : Int) != L.length) = false := by rw [bne_eq_false_iff_eq]; omega
                    subst hc1
                    replace hlr := Lib.hid hlr
                    replace hm := Lib.hid hm
                    replace hfull := Lib.hid hfull
                    replace hc0 := Lib.hid hc0
                    go_wp2_with fail
                    refine (same_yes (some ⟨g14, o14, none⟩) a3 _ c3 rest _ tR15.out tL15.out (by omega)).mono ?_
                    rintro en w16 ⟨rfl, h16⟩
                    have hbT := Lib.hid (hb15.out.trans (h16.mono hb15.out.size))
                    clear h16 hb15 tL15 tR15
                    go_wp2_with fail
                  all_goals
                    obtain ⟨nG, hnG⟩ : ∃ nG, nG = cnt G := ⟨_, rfl⟩
                    have tG := Lib.hid (hG.out.more (hb5.out.trans ((hb14.out.trans (hbT.out.mono hb14.out.size)).mono hb5.out.size)))
                    rw [← hnG] at n4 p4
                    have hagG := hag.out G (r.last + 9) (by omega) (by omega) ok4.out ne4.out (by rw [← hnG]; omega)
                    refine (batch_yes2 (r.last + 9) r.end_ _ _ a4 c4 G _ (by simp) rfl (by omega) tG.out ok4.out ne4.out (by omega) (by omega) (by rw [← hnG]; omega)).mono ?_
                    rintro en w17 ⟨v17, rfl, ho17, h17⟩
                    obtain ⟨SG, hSG⟩ : ∃ SG, SG = secs (r.last + 9) r.end_ true (stream G) := ⟨_, rfl⟩
                    have lG : SG.length = nG := by rw [hSG, secs_len, hnG]; rfl
                    rw [← hSG] at ho17 hagG
                    rw [← hnG] at hagG
                    obtain ⟨b17, e17, rfl, t17⟩ := TAt.own ho17
                    rw [lG]
                    have hbT2 := hbT.out.trans (h17.mono hbT.out.size)
                    have hD17 := hD14.out.more hbT2
                    have hR17 := tR.out.more hbT2
                    have hb17 := hb14.out.trans (hbT2.mono hb14.out.size)
                    have hSGz : ∀ b ∈ SG, b.length ≤ 140737488351232 := by rw [hSG]; exact sec_size
                    clear ho17 h17 tG
                    by_cases hov : 120 < r.end_ + nG
                    · have hov2 : (120 : Int) < (r.end_ : Int) + nG := by omega
                      have hb17h := Lib.hid hb17
                      replace hagG := Lib.hid hagG
                      replace lG := Lib.hid lG
                      replace hnG := Lib.hid hnG
                      replace hSG := Lib.hid hSG
                      clear hbT2 hD17 hR17 hb17 t17 hSGz hif
                      go_wp2
                      go_ret
                      exact ⟨rfl, hb5.out.trans (hb17h.out.mono hb5.out.size)⟩
                    · obtain ⟨w18, x18, D18, hb18, k18⟩ := copy_disk (o := r.end_) (dl := 120 - r.end_) (dc := 120 - r.end_) (sc := e17) hD17 t17 lG (by omega) (by omega) (by rw [lD.out]; omega) hb17 (Nat.le_refl _)
                      have hov2 : ¬ (120 : Int) < (r.end_ : Int) + nG := by omega
                      have h120e : ¬ 120 = r.end_ := by omega
                      have hre0 : (0 : Int) ≤ r.end_ := by omega
                      have hre1 : (r.end_ : Int) ≤ 120 := by omega
                      have hR18 : TAt w18 (some ⟨g14, 0, none⟩) r.l := fun j hj => by
                        obtain ⟨b, o, e, hc⟩ := hR17 j hj
                        cases e
                        refine ⟨_, _, rfl, ?_⟩
                        rw [World.cell?_of_block (w := w17) (k18 g14 (by omega))]
                        exact hc
                      have hG18 := hG.out.more (hb5.out.trans (hb18.mono hb5.out.size))
                      have hsc : scan st0 (splice D r.end_ SG) = ⟨[], true, r.end_ + nG, r.last + 9, r.l ++ G, r.end_ + nG, r.last + 9⟩ := by
                        rw [← hagG, splice, lG]
                      have lD2 : (splice D r.end_ SG).length = 120 := by rw [length_splice _ _ _ (by rw [lG, lD.out]; omega), lD.out]
                      have hDz2 : ∀ b ∈ splice D r.end_ SG, b.length ≤ 140737488351232 := by
                        intro b hb
                        rcases List.mem_append.1 hb with h | h
                        · exact hDz.out b (List.mem_of_mem_take h)
                        · rcases List.mem_append.1 h with h | h
                          · exact hSGz b h
                          · exact hDz.out b (List.mem_of_mem_drop h)
                      obtain ⟨R2, hR2⟩ : ∃ R2 : St, R2 = ⟨[], true, r.end_ + nG, r.last + 9, r.l ++ G, r.end_ + nG, r.last + 9⟩ := ⟨_, rfl⟩
                      rw [← hR2] at hsc
                      have hR2l : R2.l = r.l ++ G := by rw [hR2]
                      have hR2e : R2.end_ = r.end_ + nG := by rw [hR2]
                      have hR2s : R2.last = r.last + 9 := by rw [hR2]
                      have hb18h := Lib.hid hb18
                      replace hR18 := Lib.hid hR18
                      replace hG18 := Lib.hid hG18
                      replace hsc := Lib.hid hsc
                      replace lD2 := Lib.hid lD2
                      replace hDz2 := Lib.hid hDz2
                      replace D18 := Lib.hid D18
                      replace hR2l := Lib.hid hR2l
                      replace hR2e := Lib.hid hR2e
                      replace hR2s := Lib.hid hR2s
                      replace lG := Lib.hid lG
                      replace hnG := Lib.hid hnG
                      replace hSG := Lib.hid hSG
                      clear hbT2 hD17 hR17 hb17 t17 hSGz hif k18 hagG hb18 hR2
                      go_wp2_with fail
                      refine (scan_n (some ⟨w5.heap.size, 0, none⟩) 120 _ (splice D r.end_ SG) R2 _ lD2.out (by rw [lD2.out]; omega) hDz2.out D18.out.row hsc.out).mono ?_
                      rintro en w19 ⟨vx, rfl, ho19, h19⟩
                      have hGp := List.length_pos_iff.2 ne4.out
                      have hRl := hrll.out
                      have hXl : R2.l.length = A.length + rest.length + G.length := by rw [hR2l.out, List.length_append, hRl]
                      obtain ⟨g19, c19, hvx, hg19, hl19, hm19, t19⟩ := row_form ho19 (by rw [hXl]; omega)
                      rw [hvx, hXl, hR2e.out, hR2s.out]
                      rw [hXl] at hl19
                      have tX1 := Lib.hid (show TAt w19 (some ⟨g19, 0, none⟩) r.l from by have := t19.take r.l.length; rwa [hR2l.out, List.take_left'] at this; rfl)
                      have tX2 := Lib.hid (show TAt w19 (some ⟨g19, A.length + rest.length, none⟩) G from fun j hj => by
                        obtain ⟨b, o, e, hc⟩ := t19 (A.length + rest.length + j) (by omega)
                        cases e
                        refine ⟨_, _, rfl, ?_⟩
                        rw [Nat.zero_add] at hc
                        rw [hc]
                        simp only [hR2l.out]
                        rw [List.getElem_append_right (by omega)]
                        simp [hRl])
                      have tR19 := Lib.hid (hR18.out.more h19)
                      have tG19 := Lib.hid (hG18.out.more h19)
                      have hb19 := Lib.hid (hb18h.out.trans (h19.mono hb18h.out.size))
                      have hc19a : (A.length : Int) + rest.length ≤ c19 := by omega
                      have hc19b : ¬ c19 = A.length + rest.length := by omega
                      have hc19c : (A.length : Int) + rest.length ≤ (A.length : Int) + rest.length + G.length := by omega
                      have hc190 : (0 : Int) ≤ (A.length : Int) + rest.length := by omega
                      have hwr1 : IntKind.i64.wrap ((A.length : Int) + rest.length) = (A.length : Int) + rest.length := IntWalk.i64_in _ (by omega)
                      have htn1 : ((A.length : Int) + rest.length).toNat = A.length + rest.length := by omega
                      replace hrl := hrl
                      clear t19 ho19 hvx h19 hXl hb18h hR18 hG18 hsc D18 hDz2 lD2
                      replace hRl := Lib.hid hRl
                      go_wp2_with fail
                      refine (same_n (some ⟨g19, 0, none⟩) (some ⟨g14, 0, none⟩) _ _ r.l _ _ hRl.out tX1.out tR19.out (by omega)).mono ?_
                      rintro en w20 ⟨rfl, h20⟩
                      have tX3 := Lib.hid (tX2.out.more h20)
                      have tG20 := Lib.hid (tG19.out.more h20)
                      have hb20 := Lib.hid (hb19.out.trans (h20.mono hb19.out.size))
                      clear h20 hb19 tX1 tX2 tR19 tG19
                      go_wp2_with fail
                      refine (same_yes (some ⟨g19, A.length + rest.length, none⟩) a4 _ c4 G _ tX3.out tG20.out (by omega)).mono ?_
                      rintro en w21 ⟨rfl, h21⟩
                      go_wp2
                      go_ret
                      exact ⟨rfl, hb5.out.trans ((hb20.out.trans (h21.mono hb20.out.size)).mono hb5.out.size)⟩
end Go.Proofs.Ytaecfgakgpndaaa
