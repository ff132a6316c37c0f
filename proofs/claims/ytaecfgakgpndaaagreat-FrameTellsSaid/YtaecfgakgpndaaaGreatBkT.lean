/- A book's lists of texts: marks, copies. No condition. -/
import Derived.Test.YtaecfgakgpndaaaGreatBkM
import Derived.Test.YtaecfgakgpndaaaGreatFPlain
import Derived.Test.YtaecfgakgpndaaaGreatProg
import Derived.Deep.LoopGhost
import Derived.Deep.RegionHeld3
import Derived.BigQuiet
import Derived.Deep.QuietTactic
namespace Go.Proofs.YtaecfgakgpndaaaGreat
open Go.RowKit

theorem bkT_info : (Tryz.prog.info? 9).map (fun i => (i.zero, i.size, i.bytes)) = some (some (Value.string ByteArray.empty), 1, 16) := by kernel_rfl
theorem bkT_infoS : (Tryz.prog.info? 24).map (fun i => (i.zero, i.size, i.bytes)) = some (some (.slice none 0 0), 1, 24) := by kernel_rfl
def nmb (i k : Nat) : List UInt8 := [109, UInt8.ofNat (65 + i % 26), UInt8.ofNat (65 + i / 26 % 26), UInt8.ofNat (48 + k % 10), UInt8.ofNat (48 + k / 10 % 10), UInt8.ofNat (48 + k / 100 % 10)]
def bkT (i k : Nat) : List Value := [.string (mk (nmb i k))]
theorem bkT_len (i k : Nat) : (bkT i k).length = 1 := rfl
theorem bkT_one (i k : Nat) : ∀ u ∈ bkT i k, u.oneCell' = true := by intro u hu; rw [List.mem_singleton.1 hu]; rfl

theorem RdAt.new1T {w : World} {b' : Nat} {u : Value} (t : TypeId) (hb : b' = w.heap.size) : RdAt (w.alloc (.cells #[u] t)) (.slice (some ⟨b', 0, none⟩) 1 1) 1 [u] := by
  subst hb
  refine ⟨_, _, rfl, fun j x hj => ⟨_, _, rfl, ?_⟩⟩
  match j, hj with
  | 0, hj => cases hj; exact cell_of (heap_alloc_new w _) rfl
  | n + 1, hj => simp at hj
theorem grow_ownT {w wr w1 : World} {v v' : Value} {n m : Nat} {xs ys : List Value} {o : Obj} {e : TypeId} {sz : Nat} (h : wr.ownsRow w.heap.size e sz v n xs) (hb : Below w.heap.size w wr) (hp : AppPost (wr.alloc o) w.heap.size e sz v n xs m ys v' w1) : Below w.heap.size w w1 :=
  (hb.alloc hb.size o).grown hp.2.1 (by have := hb.size; simp; omega) (fun k e => (h.lt k e).1)

theorem nm_cell (a n : Nat) (h : a + n < 256) : Value.int .u8 ((a : Int) + n) = .int .u8 ((UInt8.ofNat (a + n)).toNat : Int) := by
  rw [UInt8.toNat_ofNat', Nat.mod_eq_of_lt (by omega)]
  congr 1
theorem conv6 (i k : Nat) (w : World) (t : TypeId) : (convert 60 9 (.slice (some ⟨w.heap.size, 0, none⟩) 6 6)).run Tryz.prog (w.alloc (.cells #[.int .u8 109, .int .u8 (65 + (i : Int) % 26), .int .u8 (65 + (i : Int) / 26 % 26), .int .u8 (48 + (k : Int) % 10), .int .u8 (48 + (k : Int) / 10 % 10), .int .u8 (48 + (k : Int) / 100 % 10)] t)) =
    .ok (.string (mk (nmb i k))) (w.alloc (.cells #[.int .u8 109, .int .u8 (65 + (i : Int) % 26), .int .u8 (65 + (i : Int) / 26 % 26), .int .u8 (48 + (k : Int) % 10), .int .u8 (48 + (k : Int) / 10 % 10), .int .u8 (48 + (k : Int) / 100 % 10)] t)) :=
  run_convert_bytes_back _ 60 9 5 ⟨w.heap.size, 0, none⟩ 6 (nmb i k) Tryz.underlying60 Tryz.underlying5 Tryz.underlying9 fun j hj => by
    have hc := fun (j : Nat) (v : Value) (h : (#[.int .u8 109, .int .u8 (65 + (i : Int) % 26), .int .u8 (65 + (i : Int) / 26 % 26), .int .u8 (48 + (k : Int) % 10), .int .u8 (48 + (k : Int) / 10 % 10), .int .u8 (48 + (k : Int) / 100 % 10)] : Array Value)[j]? = some v) => cell_of (heap_alloc_new w (.cells _ t)) h
    rw [Addr.add_lit, Nat.zero_add]
    match j, hj with
    | 0, _ => exact hc 0 _ rfl
    | 1, _ => exact (hc 1 _ rfl).trans (congrArg some (by simp only [nmb, List.getElem_cons_succ, List.getElem_cons_zero]; rw [← nm_cell 65 (i % 26) (by omega)]; simp))
    | 2, _ => exact (hc 2 _ rfl).trans (congrArg some (by simp only [nmb, List.getElem_cons_succ, List.getElem_cons_zero]; rw [← nm_cell 65 (i / 26 % 26) (by omega)]; simp))
    | 3, _ => exact (hc 3 _ rfl).trans (congrArg some (by simp only [nmb, List.getElem_cons_succ, List.getElem_cons_zero]; rw [← nm_cell 48 (k % 10) (by omega)]; simp))
    | 4, _ => exact (hc 4 _ rfl).trans (congrArg some (by simp only [nmb, List.getElem_cons_succ, List.getElem_cons_zero]; rw [← nm_cell 48 (k / 10 % 10) (by omega)]; simp))
    | 5, _ => exact (hc 5 _ rfl).trans (congrArg some (by simp only [nmb, List.getElem_cons_succ, List.getElem_cons_zero]; rw [← nm_cell 48 (k / 100 % 10) (by omega)]; simp))
set_option maxRecDepth 100000 in
set_option maxHeartbeats 1600000 in
theorem bkT_name (i k : Nat) (w : World) (hi : i ≤ 1000) (hk : k ≤ 10000000) :
    Calls Tryz.prog 101 #[.int .i64 i, .int .i64 k] w fun e w' => e = .returned (.string (mk (nmb i k))) ∧ Below w.heap.size w w' := by
  go_enter Tryz.func101, Tryz.ntmps101
  have hcv := conv6 i k w
  go_wp2
  go_ret
  exact ⟨rfl, (Below.refl _ _).alloc (Nat.le_refl _) _⟩
set_option maxHeartbeats 1600000 in
theorem bkT_mark (i f n : Nat) (w : World) (hi : i ≤ 1000) (hf : f + n ≤ 10000000) :
    Calls Tryz.prog 88 #[.int .i64 i, .int .i64 f, .int .i64 n] w fun e w' => ∃ v, e = .returned v ∧ w'.ownsRow w.heap.size 9 1 v n (mks bkT i f n) ∧ Below w.heap.size w w' := by
  obtain ⟨ii, hi0, hz0, hz1, hz2⟩ := info_parts bkT_info
  go_enter Tryz.func88, Tryz.ntmps88
  go_wp2
  go_loopw [7, 8] (fun v x wr => ∃ j : Nat, j ≤ n ∧ x = .int .i64 ((f : Int) + j) ∧ wr.ownsRow w.heap.size 9 1 v j (mks bkT i f j) ∧ Below w.heap.size w wr) (fun _ x _ => f + n - (intOf x).toNat)
  case atStart => exact ⟨0, Nat.zero_le _, by simp, World.ownsRow_nil _ _ _ _, Below.refl _ _⟩
  case round =>
    obtain ⟨j, hj, rfl, ho, hb⟩ := hrel
    replace ho := Lib.hid ho
    replace hb := Lib.hid hb
    by_cases hlt : j < n
    · have e1 : (f : Int) + j = ((f + j : Nat) : Int) := by omega
      rw [e1]
      clear e1
      go_wp2_with fail
      refine (bkT_name i (f + j) _ (by omega) (by omega)).mono ?_
      rintro e w2 ⟨rfl, h2⟩
      have ho2 := Lib.hid ((Chg.of_below (S := fun _ => False) h2).row ho.out (fun _ _ => id))
      have hb2 := Lib.hid (hb.out.trans (h2.mono hb.out.size))
      clear h2 ho
      go_wp2_with (at_builtin; refine wpList_append_rd rfl _ _ 24 rfl w.heap.size 9 ii (.string ByteArray.empty) 1 16 Tryz.underlying24 hi0 hz0 hz1 hz2 rfl (by decide) _ _ _ rfl (ho2.out.alloc _) _ 1 [.string (mk (nmb i (f + j)))] rfl rfl (by go_simp; exact RdAt.new1T _ rfl) (by intro u hu; rw [List.mem_singleton.1 hu]; rfl) (by unfold maxLen; omega) (by omega) (by have := hb2.out.size; simp; omega) ?_; intro v' w3 hp; have hn1 := Lib.hid (grow_ownT ho2.out hb2.out hp); replace hp := Lib.hid hp)
      go_roundw
      case rel =>
        refine ⟨j + 1, by omega, by go_num, ?_, hn1.out⟩
        rw [mks_succ]
        exact hp.out.1
      case measure => simp [intOf]; omega
    · obtain rfl : j = n := by omega
      go_wp2
      go_ret
      exact ⟨_, rfl, ho.out, hb.out⟩

set_option maxHeartbeats 1600000 in
theorem bkT_copy (v : Value) (n : Nat) (xs : List Value) (w : World) (hx : RdAt w v n xs) (hl : xs.length = n) (h1 : ∀ u ∈ xs, u.oneCell' = true) (hn : n ≤ 1000000) :
    Calls Tryz.prog 30 #[v] w fun e w' => ∃ v', e = .returned v' ∧ w'.ownsRow w.heap.size 9 1 v' n xs ∧ Below w.heap.size w w' := by
  obtain ⟨ii, hi0, hz0, hz1, hz2⟩ := info_parts bkT_info
  obtain ⟨a, c, rfl, _⟩ := id hx
  replace hx := Lib.hid hx
  replace h1 := Lib.hid h1
  replace hl := Lib.hid hl
  go_enter Tryz.func30, Tryz.ntmps30
  go_wp2_with (at_builtin; refine wpList_append_rd rfl _ _ 24 rfl w.heap.size 9 ii (.string ByteArray.empty) 1 16 Tryz.underlying24 hi0 hz0 hz1 hz2 rfl (by decide) (.slice none 0 0) 0 [] rfl (World.ownsRow_nil _ _ _ _) _ n xs rfl (by rw [hl.out, Nat.mul_one]) (by go_simp; exact hx.out) h1.out (by unfold maxLen; omega) (by omega) (Nat.le_refl _) ?_; intro v' w3 hp; have hn1 := Lib.hid ((Below.refl w.heap.size w).grown hp.2.1 (Nat.le_refl _) (fun k e => by cases e)); replace hp := Lib.hid hp)
  go_ret
  refine ⟨_, rfl, ?_, hn1.out⟩
  have := hp.out.1
  rwa [Nat.zero_add, List.nil_append] at this
theorem bkT_step (i k : Nat) (xs : List Value) (h : k < xs.length) : (half bkT 1 i k xs).set k (.string (mk (nmb i k))) = half bkT 1 i (k + 1) xs := by
  have := half_step (m := bkT) (sz := 1) bkT_len (i := i) (k := k) (xs := xs) (by omega)
  simpa [bkT, setAll] using this
theorem bkT_at (i k n : Nat) (h : k < n) : (mks bkT i 0 n)[k]? = some (.string (mk (nmb i k))) := by
  have := mks_get (m := bkT) (sz := 1) bkT_len i 0 n k 0 h (by omega)
  rw [Nat.mul_one, Nat.add_zero] at this
  rw [this]
  simp [bkT]

set_option maxHeartbeats 3200000 in
theorem bkT_put (B : Nat) (vh : Value) (L : List Lst) (f : Nat → List Value) (base : Nat) (w : World) (hB : w.cell? ⟨B, 2, none⟩ = some vh) (hH : RdAt w vh L.length (L.map (·.v))) (hR : RowsF base 9 1 w L f) (hD : Dis L)
    (hs : ∀ k, blks L k → k ≠ B ∧ vh.ownBlock ≠ some k) (hn : L.length ≤ 1000) (hm : ∀ j (h : j < L.length), L[j].n ≤ 1000000) :
    Calls Tryz.prog 45 #[.pointer (some ⟨B, 0, none⟩)] w fun e w' => e = .returned (.tuple #[]) ∧ RowsF base 9 1 w' L (fun j => mks bkT j 0 (nOf L j)) ∧ Chg (blks L) w w' := by
  obtain ⟨a, c, rfl, hH1⟩ := id hH
  have hBc : ∀ w', Chg (blks L) w w' → w'.cell? ⟨B, 2, none⟩ = some (.slice a L.length c) := fun w' hc =>
    (World.cell?_of_block (w := w) (hc.block _ (World.block_lt_of_cell? w _ hB) (fun h => (hs _ h).1 rfl))).trans hB
  have hHc : ∀ w', Chg (blks L) w w' → ∀ j (h : j < L.length), ∃ b o, a = some ⟨b, o, none⟩ ∧ w'.cell? ⟨b, o + j, none⟩ = some L[j].v := fun w' hc j h =>
    (hH.kept hc (fun k hk h => (hs k h).2 hk)).get (by simp [h])
  replace hBc := Lib.hid hBc
  replace hHc := Lib.hid hHc
  replace hD := Lib.hid hD
  replace hs := Lib.hid hs
  replace hm := Lib.hid hm
  clear hB hH hH1
  go_enter Tryz.func45, Tryz.ntmps45
  have hc0 := Lib.hid (Chg.refl (blks L) w)
  go_wp2
  go_loopw [2, 3, 4] (fun i _ _ wr => ∃ k : Nat, k ≤ L.length ∧ i = .int .i64 k ∧ RowsF base 9 1 wr L (fun j => if j < k then mks bkT j 0 (nOf L j) else f j) ∧ Chg (blks L) w wr) (fun i _ _ _ => L.length - (intOf i).toNat)
  case atStart => exact ⟨0, Nat.zero_le _, rfl, hR.congr (fun j _ => by simp), hc0.out⟩
  case round =>
    obtain ⟨k, hk, rfl, hr, hc⟩ := hrel
    have hB1 := hBc.out _ hc
    by_cases hlt : k < L.length
    · obtain ⟨b, o, rfl, hh⟩ := hHc.out _ hc k hlt
      have hrow : wr.ownsRow base 9 1 L[k].v L[k].n (f k) := by have := hr k hlt; simpa using this
      obtain ⟨ak, mk_, ck, hv, e1⟩ := own_form hrow
      obtain ⟨nk, hnk⟩ : ∃ nk, nk = L[k].n := ⟨_, rfl⟩
      have hnm := hm.out k hlt
      have hkk : nOf L k = nk := by rw [nOf_at hlt, hnk]
      rw [← hnk] at hnm hrow
      rw [e1, ← hnk] at hv
      rw [hv] at hh
      have hkl : (k : Int) < L.length := by omega
      clear e1
      replace hv := Lib.hid hv
      replace hnk := Lib.hid hnk
      replace hkk := Lib.hid hkk
      replace hr := Lib.hid hr
      replace hc := Lib.hid hc
      replace hrow := Lib.hid hrow
      go_wp2_with fail
      refine (bkT_mark k 0 nk _ (by omega) (by omega)).mono ?_
      rintro e w1 ⟨vm, rfl, hm1, hb1⟩
      obtain ⟨am, mm, cm, rfl, rfl⟩ := own_form hm1
      have hRd := Lib.hid (RdAt.own hm1)
      have hc1 := hc.out.trans (Chg.of_below (S := blks L) hb1) (fun _ _ h => h)
      have hr1 := Lib.hid (hr.out.more hb1)
      have hm1l : wr.heap.size ≤ w1.heap.size := hb1.size
      have hrm : ∀ w', Chg (blks L) w1 w' → ∀ j, j < mm → ∃ b o, am = some ⟨b, o, none⟩ ∧ w'.cell? ⟨b, o + j, none⟩ = some (.string (mk (nmb k j))) := fun w' hc' j hj =>
        (hRd.out.kept hc' (fun q hq hq' => by
          obtain ⟨i2, h2, e2⟩ := hq'
          have := (hr.out i2 h2).lt q e2
          have := (hm1.lt q hq).1
          omega)).get (bkT_at k j mm hj)
      replace hrm := Lib.hid hrm
      replace hc1 := Lib.hid hc1
      clear hm1 hb1 hRd hr hh hB1 hrow
      go_wp2
      go_loopw [4] (fun i wr2 => ∃ j : Nat, j ≤ mm ∧ i = .int .i64 j ∧ RowsF base 9 1 wr2 L (fun q => if q = k then half bkT 1 k j (f k) else if q < k then mks bkT q 0 (nOf L q) else f q) ∧ Chg (blks L) w1 wr2) (fun i _ => mm - (intOf i).toNat)
      case atStart =>
        refine ⟨0, Nat.zero_le _, rfl, hr1.out.congr (fun j _ => ?_), Chg.refl _ _⟩
        by_cases e : j = k
        · subst e; simp [half_zero]
        · simp [e]
      case round =>
        obtain ⟨j, hj, rfl, hr2, hc2⟩ := hrel
        have hB2 := hBc.out _ (hc1.out.trans hc2 (fun _ _ h => h))
        have hrk : wr.ownsRow base 9 1 L[k].v L[k].n (half bkT 1 k j (f k)) := by have := hr2 k hlt; simpa using this
        rw [hv.out, ← hnk.out] at hrk
        by_cases hjl : j < mm
        · obtain ⟨bh, oh, eh, hh2⟩ := hHc.out _ (hc1.out.trans hc2 (fun _ _ h => h)) k hlt
          cases eh
          rw [hv.out] at hh2
          obtain ⟨bm, om, rfl, hcm⟩ := hrm.out _ hc2 j hjl
          rcases hrk.2 with ⟨e1, e2⟩ | ⟨g, cap, cur, e1, _⟩
          · omega
          · obtain ⟨rfl, e3, rfl⟩ : ak = some ⟨g, 0, none⟩ ∧ mm = mm ∧ ck = cap := by simpa using e1
            have hst := hrk.stored j (.string (mk (nmb k j)))
            have hxl : (f k).length = mm := by
              have := (hr1.out k hlt).1
              rw [← hnk.out] at this
              simpa using this
            rw [bkT_step k j (f k) (by omega)] at hst
            have hck := hrk.cellAt j (by omega)
            have hfz := hrk.frozenAt j
            obtain ⟨u, hu⟩ : ∃ u, (half bkT 1 k j (f k))[j]? = some u := ⟨_, List.getElem?_eq_getElem (by have := hrk.1; omega)⟩
            rw [hu] at hck
            have hblk : ∀ q, some g = some q → blks L q := fun q e => ⟨k, hlt, by rw [hv.out]; exact e⟩
            have hc3 := hc2.setCell (a := ⟨g, j, none⟩) (fun _ => hblk g rfl) (.string (mk (nmb k j)))
            have hr3 := hr2.set hD.out hlt (ys := half bkT 1 k (j + 1) (f k)) (by rw [hv.out, ← hnk.out]; exact hst.1) ((Chg.refl (fun q => L[k].v.ownBlock = some q) wr).setCell (a := ⟨g, j, none⟩) (fun _ => by rw [hv.out]; rfl) (.string (mk (nmb k j))))
            have hjm : (j : Int) < mm := by omega
            replace hc3 := Lib.hid hc3
            replace hr3 := Lib.hid hr3
            clear hst hu hr2 hc2 hrk e1 e3
            go_wp2
            go_region
            all_goals go_wp2
            go_roundw
            case rel =>
              refine ⟨j + 1, hjl, by go_num, hr3.out.congr (fun q _ => ?_), hc3.out.drew⟩
              by_cases e : q = k
              · subst e; simp
              · simp [e]
            case measure => simp [intOf]; omega
        · obtain rfl : j = mm := by omega
          have hfin : RowsF base 9 1 wr L (fun q => if q < k + 1 then mks bkT q 0 (nOf L q) else f q) := hr2.congr (fun q hq => by
            by_cases e : q = k
            · subst e
              simp only [if_true, Nat.lt_succ_self, hkk.out]
              rw [half_all]
              have := (hr1.out q hq).1
              rw [← hnk.out] at this
              simpa using Nat.le_of_eq this
            · have e2 : q < k + 1 ↔ q < k := by omega
              simp [e, e2])
          have hc4 := Lib.hid (hc1.out.trans hc2 (fun _ _ h => h))
          replace hfin := Lib.hid hfin
          clear hr2 hc2 hrk
          go_wp2
          go_roundw
          case rel => exact ⟨k + 1, hlt, by go_num, hfin.out, hc4.out⟩
          case measure => simp [intOf]; omega
    · obtain rfl : k = L.length := by omega
      go_wp2
      go_end0
      exact ⟨rfl, hr.congr (fun j hj => by simp [hj]), hc⟩
theorem grow_lastT {k : Nat} {wS w3 : World} {base : Nat} {v0 v1 vg : Value} {n0 nk t : Nat} (hv : v0 = v1) (hn : nk = n0) (ht : t = 12) (h : GrowI wS w3 base 9 1 v1 nk (mks bkT k 0 nk) vg (nk + t + 60) (mks bkT k 0 (nk + t) ++ mks bkT k (nk + t) 60)) :
    GrowI wS w3 base 9 1 v0 n0 (mks bkT k 0 n0) vg (n0 + 72) (mks bkT k 0 (n0 + 72)) := by
  subst hv hn ht
  have e := mks_add bkT k 0 (nk + 12) 60
  rw [Nat.zero_add, Nat.add_assoc] at e
  rw [e]
  exact h
theorem bkT_mark' (i : Nat) (x : Int) (n : Nat) (w : World) (f : Nat) (hi : i ≤ 1000) (hf : f + n ≤ 10000000) (hx : x = f) :
    Calls Tryz.prog 88 #[.int .i64 i, .int .i64 x, .int .i64 n] w fun e w' => ∃ v, e = .returned v ∧ w'.ownsRow w.heap.size 9 1 v n (mks bkT i f n) ∧ Below w.heap.size w w' := by
  subst hx
  exact bkT_mark i f n w hi hf
set_option maxRecDepth 100000 in
set_option maxHeartbeats 3200000 in
theorem bkT_grow (B : Nat) (vh : Value) (L : List Lst) (base : Nat) (w : World) (hB : w.cell? ⟨B, 2, none⟩ = some vh) (hH : RdAt w vh L.length (L.map (·.v))) (hR : RowsF base 9 1 w L (fun j => mks bkT j 0 (nOf L j))) (hD : Dis L)
    (hs : ∀ k, blks L k → k ≠ B ∧ vh.ownBlock ≠ some k) (hn : L.length ≤ 1000) (hm : ∀ j (h : j < L.length), L[j].n ≤ 1000000) (hbase : base ≤ w.heap.size) :
    Calls Tryz.prog 53 #[.pointer (some ⟨B, 0, none⟩)] w fun e w' => ∃ vo, e = .returned vo ∧ Grown 24 bkT w w' L vo L.length ∧ Chg (blks L) w w' := by
  obtain ⟨ii, hi0, hz0, hz1, hz2⟩ := info_parts bkT_info
  obtain ⟨is, his0, hsz0, hsz1, hsz2⟩ := info_parts bkT_infoS
  obtain ⟨a, c, rfl, hH1⟩ := id hH
  have hBc : ∀ w', Chg (blks L) w w' → w'.cell? ⟨B, 2, none⟩ = some (.slice a L.length c) := fun w' hc =>
    (World.cell?_of_block (w := w) (hc.block _ (World.block_lt_of_cell? w _ hB) (fun h => (hs _ h).1 rfl))).trans hB
  have hHc : ∀ w', Chg (blks L) w w' → ∀ j (h : j < L.length), ∃ b o, a = some ⟨b, o, none⟩ ∧ w'.cell? ⟨b, o + j, none⟩ = some L[j].v := fun w' hc j h =>
    (hH.kept hc (fun k hk h => (hs k h).2 hk)).get (by simp [h])
  replace hBc := Lib.hid hBc
  replace hHc := Lib.hid hHc
  replace hD := Lib.hid hD
  replace hs := Lib.hid hs
  replace hm := Lib.hid hm
  have hR0 := Lib.hid hR
  have hL := Lib.hid (show ∀ q, blks L q → q < w.heap.size from fun q ⟨j, hj, e⟩ => ((hR j hj).lt q e).2)
  clear hB hH hH1
  go_enter Tryz.func53, Tryz.ntmps53
  have hc0 := Lib.hid (Chg.refl (blks L) w)
  go_wp2
  go_loopw [3, 4, 5, 6] (fun vo i _ _ wr => ∃ k : Nat, k ≤ L.length ∧ i = .int .i64 k ∧ Grown 24 bkT w wr L vo k ∧ RowsG base 9 1 wr L k (fun j => mks bkT j 0 (nOf L j)) ∧ Chg (blks L) w wr) (fun _ i _ _ _ => L.length - (intOf i).toNat)
  case atStart => exact ⟨0, Nat.zero_le _, rfl, Grown.start _ _ _ _, hR.from_, hc0.out⟩
  case round =>
    obtain ⟨k, hk, rfl, ⟨G, hg⟩, hr, hc⟩ := hrel
    have hB1 := hBc.out _ hc
    by_cases hlt : k < L.length
    · obtain ⟨b, o, rfl, hh⟩ := hHc.out _ hc k hlt
      have hrow : wr.ownsRow base 9 1 L[k].v L[k].n (mks bkT k 0 (nOf L k)) := hr k (Nat.le_refl _) hlt
      obtain ⟨ak, mk_, ck, hv, e1⟩ := own_form hrow
      obtain ⟨nk, hnk⟩ : ∃ nk, nk = L[k].n := ⟨_, rfl⟩
      have hnm := hm.out k hlt
      have hkk : nOf L k = nk := by rw [nOf_at hlt, hnk]
      rw [← hnk] at hnm hrow
      rw [hkk] at hrow
      rw [e1, ← hnk] at hv
      rw [hv] at hh hrow
      have hkl : (k : Int) < L.length := by omega
      clear e1
      have hG0 := Lib.hid (GrowI.start hrow)
      replace hv := Lib.hid hv
      replace hnk := Lib.hid hnk
      replace hkk := Lib.hid hkk
      replace hr := Lib.hid hr
      replace hg := Lib.hid hg
      replace hc := Lib.hid hc
      have hbw : base ≤ wr.heap.size := by have := hc.out.size; omega
      replace hrow := Lib.hid hrow
      go_wp2
      go_loopw [5, 6] (fun vl i wr2 => ∃ t : Nat, t ≤ 12 ∧ i = .int .i64 t ∧ GrowI wr wr2 base 9 1 (.slice ak nk ck) nk (mks bkT k 0 nk) vl (nk + t) (mks bkT k 0 (nk + t))) (fun _ i _ => 12 - (intOf i).toNat)
      case atStart => exact ⟨0, Nat.zero_le _, rfl, hG0.out⟩
      case round =>
        obtain ⟨t, ht, rfl, hG⟩ := hrel
        obtain ⟨al, ml, cl, rfl, e4⟩ := own_form hG.1
        subst e4
        replace hG := Lib.hid hG
        by_cases htl : t < 12
        · go_wp2_with fail
          refine (bkT_mark' k _ 1 _ (nk + t) (by omega) (by omega) (by go_num)).mono ?_
          rintro e w1 ⟨vm, rfl, hm1, hb1⟩
          have hRd := Lib.hid (RdAt.own hm1)
          have hG1 := Lib.hid (hG.out.more hb1)
          have hbw1 : base ≤ w1.heap.size := by have := hG.out.2.2.2.2.size; have := hb1.size; omega
          clear hm1 hG
          go_wp2_with (at_builtin; refine wpList_append_rd rfl _ _ 24 rfl base 9 ii (.string ByteArray.empty) 1 16 Tryz.underlying24 hi0 hz0 hz1 hz2 rfl (by decide) _ _ _ rfl hG1.out.1 _ 1 (mks bkT k (nk + t) 1) rfl (by rw [mks_len bkT_len]) (by go_simp; exact hRd.out) (mks_all bkT_one _ _ _) (by unfold maxLen; omega) (by omega) hbw1 ?_; intro v' w3 hp; have hG2 := Lib.hid (hG1.out.step hrow.out hp); clear hp hG1 hRd)
          go_roundw
          case rel =>
            refine ⟨t + 1, htl, by go_num, ?_⟩
            rw [← Nat.add_assoc, mks_add, Nat.zero_add]
            exact hG2.out
          case measure => simp [intOf]; omega
        · have htn : ¬ ((t : Int) < 12) := by omega
          have ht12 := Lib.hid (show t = 12 by omega)
          clear htl ht
          go_wp2_with fail
          refine (bkT_mark' k _ 60 _ (nk + t) (by omega) (by have := ht12.out; omega) (by go_num)).mono ?_
          rintro e w1 ⟨vm, rfl, hm1, hb1⟩
          have hRd := Lib.hid (RdAt.own hm1)
          have hG1 := Lib.hid (hG.out.more hb1)
          have hbw1 : base ≤ w1.heap.size := by have := hG.out.2.2.2.2.size; have := hb1.size; omega
          have hbw0 : w.heap.size ≤ w1.heap.size := by have := hG.out.2.2.2.2.size; have := hb1.size; have := hc.out.size; omega
          clear hm1 hG
          go_wp2_with (at_builtin; first | (refine wpList_append_rd rfl _ _ 24 rfl base 9 ii (.string ByteArray.empty) 1 16 Tryz.underlying24 hi0 hz0 hz1 hz2 rfl (by decide) _ _ _ rfl hG1.out.1 _ 60 (mks bkT k (nk + t) 60) rfl (by rw [mks_len bkT_len]) (by go_simp; exact hRd.out) (mks_all bkT_one _ _ _) (by have := ht12.out; unfold maxLen; omega) (by have := ht12.out; omega) hbw1 ?_; intro v' w3 hp; obtain ⟨a3, m3, c3, rfl, rfl⟩ := own_form hp.1; have hG2 := Lib.hid (grow_lastT hv.out hnk.out ht12.out (hG1.out.step hrow.out hp)); have hw13 := hp.grows; clear hp) | (refine wpList_append_rd rfl _ _ 37 rfl w.heap.size 24 is (.slice none 0 0) 1 24 Tryz.underlying37 his0 hsz0 hsz1 hsz2 rfl (by decide) _ k G rfl ((hg.out.own3 (hk := hlt) hG2.out hL.out).alloc _) (.slice (some ⟨w3.heap.size, 0, none⟩) 1 1) 1 [.slice a3 (nk + t + 60) c3] rfl rfl (RdAt.new1T _ rfl) (by intro u hu; rw [List.mem_singleton.1 hu]; rfl) (by unfold maxLen; omega) (by omega) (by simp; omega) ?_; intro vo' w4 hp4; have hfin := Lib.hid (hg.out.step hlt hG2.out hL.out hD.out hr.out hc.out hp4); clear hp4))
          go_roundw
          case rel => exact ⟨k + 1, hlt, by go_num, hfin.out.1, hfin.out.2.1, hfin.out.2.2⟩
          case measure => simp [intOf]; omega
    · obtain rfl : k = L.length := by omega
      go_wp2
      go_ret
      exact ⟨_, rfl, ⟨_, hg⟩, hc⟩
def AllT (xs : List Value) : Prop := ∀ u ∈ xs, ∃ x : List UInt8, u = .string (mk x)
theorem bkT_all (i f n : Nat) : AllT (mks bkT i f n) := mks_all (fun i k u hu => ⟨_, List.mem_singleton.1 hu⟩) i f n
set_option maxHeartbeats 1600000 in
theorem bkT_same (v1 v2 : Value) (n : Nat) (xs : List Value) (w : World) (h1 : RdAt w v1 n xs) (h2 : RdAt w v2 n xs) (hx : xs.length = n) (ha : AllT xs) (hl : n ≤ 1000000000) :
    Calls Tryz.prog 16 #[v1, v2] w fun e w' => e = .returned (.bool true) ∧ ∃ m, w' = w.drewN m := by
  obtain ⟨a1, c1, rfl, h1⟩ := h1
  obtain ⟨a2, c2, rfl, h2⟩ := h2
  have hne : ((n : Int) != n) = false := by simp
  replace h1 := Lib.hid h1
  replace h2 := Lib.hid h2
  replace ha := Lib.hid ha
  replace hx := Lib.hid hx
  go_enter Tryz.func16, Tryz.ntmps16
  go_wp2
  go_loopw [5] (fun i wr => ∃ k : Nat, k ≤ n ∧ i = .int .i64 k ∧ ∃ m, wr = w.drewN m) (fun i _ => n - (intOf i).toNat)
  case atStart => exact ⟨0, Nat.zero_le _, rfl, 0, rfl⟩
  case round =>
    obtain ⟨k, hk, rfl, m, rfl⟩ := hrel
    by_cases hlt : k < n
    · obtain ⟨u, hu⟩ : ∃ u, xs[k]? = some u := ⟨_, List.getElem?_eq_getElem (by rw [hx.out]; exact hlt)⟩
      obtain ⟨x, rfl⟩ := ha.out u (List.mem_of_getElem? hu)
      obtain ⟨b1, o1, rfl, g1⟩ := h1.out k _ hu
      obtain ⟨b2, o2, rfl, g2⟩ := h2.out k _ hu
      clear hu
      have hkl : (k : Int) < n := by omega
      have g1' : (w.drewN m).cell? ⟨b1, o1 + k, none⟩ = some (.string (mk x)) := g1
      have g2' : (w.drewN m).cell? ⟨b2, o2 + k, none⟩ = some (.string (mk x)) := g2
      go_wp2
      go_quiet (fail)
      go_wp2
      go_roundw
      case rel => exact ⟨k + 1, hlt, by go_num, _, rfl⟩
      case measure => simp [intOf]; omega
    · obtain rfl : k = n := by omega
      go_wp2
      go_ret
      exact ⟨rfl, _, rfl⟩

theorem bk_drewNT {B : Nat} {w w' : World} (h : Below B w w') (n : Nat) : Below B w (w'.drewN n) := ⟨h.os, h.tape, h.output, h.size, h.block⟩
def MkST (w0 w : World) (b o : Nat) (v : Value) (n : Nat) (xs : List Value) : Prop := w.cell? ⟨b, o, none⟩ = some v ∧ Hid (RdAt w v n xs ∧ Below w0.heap.size w0 w)
theorem MkST.more {w0 w w' : World} {b o : Nat} {v : Value} {n : Nat} {xs : List Value} (h : w.cell? ⟨b, o, none⟩ = some v ∧ Hid (RdAt w v n xs ∧ Below w0.heap.size w0 w)) (hb : Below w.heap.size w w') : w'.cell? ⟨b, o, none⟩ = some v ∧ Hid (RdAt w' v n xs ∧ Below w0.heap.size w0 w') :=
  ⟨(World.cell?_of_block (w := w) (hb.block _ (World.block_lt_of_cell? w _ h.1))).trans h.1, Lib.hid ⟨h.2.out.1.more hb, h.2.out.2.trans (hb.mono h.2.out.2.size)⟩⟩
theorem MkST.mark {w0 w : World} {b o : Nat} {v : Value} {k n : Nat} (hk : k ≤ 1000) (hn : n ≤ 2000000) (h : w.cell? ⟨b, o, none⟩ = some v ∧ Hid (RdAt w v n (mks bkT k 0 n) ∧ Below w0.heap.size w0 w)) :
    Calls Tryz.prog 88 #[.int .i64 k, .int .i64 0, .int .i64 n] w fun e w' => ∃ vm, e = .returned vm ∧ (w'.cell? ⟨b, o, none⟩ = some v ∧ Hid (RdAt w' v n (mks bkT k 0 n) ∧ Below w0.heap.size w0 w')) ∧ Hid (RdAt w' vm n (mks bkT k 0 n)) :=
  (bkT_mark' k 0 n w 0 hk (by omega) rfl).mono fun _ _ ⟨vm, he, h1, hb⟩ => ⟨vm, he, MkST.more h hb, Lib.hid (RdAt.own h1)⟩
theorem MkST.same {w0 w : World} {b o : Nat} {v vm : Value} {k n : Nat} (hn : n ≤ 2000000) (hm : RdAt w vm n (mks bkT k 0 n)) (h : w.cell? ⟨b, o, none⟩ = some v ∧ Hid (RdAt w v n (mks bkT k 0 n) ∧ Below w0.heap.size w0 w)) :
    Calls Tryz.prog 16 #[v, vm] w fun e w' => e = .returned (.bool true) ∧ (w'.cell? ⟨b, o, none⟩ = some v ∧ Hid (RdAt w' v n (mks bkT k 0 n) ∧ Below w0.heap.size w0 w')) :=
  (bkT_same v vm n _ w h.2.out.1 hm (by rw [mks_len bkT_len, Nat.mul_one]) (bkT_all _ _ _) (by omega)).mono fun _ _ ⟨he, m, hw⟩ => ⟨he, by rw [hw]; exact MkST.more h (bk_drewNT (Below.refl _ _) m)⟩
set_option maxHeartbeats 3200000 in
theorem bkT_marked (vo : Value) (G : List Value) (q : Nat → Nat) (w : World) (hG : RdAt w vo G.length G) (hR : ∀ (j : Nat) (g : Value), G[j]? = some g → RdAt w g (q j) (mks bkT j 0 (q j)) ∧ q j ≤ 2000000) (hn : G.length ≤ 1000) :
    Calls Tryz.prog 62 #[vo] w fun e w' => e = .returned (.bool true) ∧ Below w.heap.size w w' := by
  obtain ⟨a, c, rfl, hG1⟩ := id hG
  replace hG1 := Lib.hid hG1
  replace hR := Lib.hid hR
  clear hG
  go_enter Tryz.func62, Tryz.ntmps62
  go_wp2
  go_loopw [3] (fun i wr => ∃ k : Nat, k ≤ G.length ∧ i = .int .i64 k ∧ Below w.heap.size w wr) (fun i _ => G.length - (intOf i).toNat)
  case atStart => exact ⟨0, Nat.zero_le _, rfl, Below.refl _ _⟩
  case round =>
    obtain ⟨k, hk, rfl, hb⟩ := hrel
    by_cases hlt : k < G.length
    · obtain ⟨g, hg⟩ : ∃ g, G[k]? = some g := ⟨_, List.getElem?_eq_getElem hlt⟩
      obtain ⟨b, o, rfl, hc⟩ := hG1.out k g hg
      obtain ⟨hr, hq⟩ := hR.out k g hg
      have hc1 : wr.cell? ⟨b, o + k, none⟩ = some g := (World.cell?_of_block (w := w) (hb.block _ (World.block_lt_of_cell? w _ hc))).trans hc
      obtain ⟨a1, c1, rfl, _⟩ := id hr
      have hkl : (k : Int) < G.length := by omega
      have S0 : wr.cell? ⟨b, o + k, none⟩ = some (.slice a1 (q k) c1) ∧ Hid (RdAt wr (.slice a1 (q k) c1) (q k) (mks bkT k 0 (q k)) ∧ Below w.heap.size w wr) := ⟨hc1, Lib.hid ⟨hr.more hb, hb⟩⟩
      clear hr hg hc hb
      go_wp2
      go_region_held3 (fun w' => w'.cell? ⟨b, o + k, none⟩ = some (.slice a1 (q k) c1) ∧ Hid (RdAt w' (.slice a1 (q k) c1) (q k) (mks bkT k 0 (q k)) ∧ Below w.heap.size w w')) (first | assumption | exact MkST.more S0 (Below.refl _ _).drew) (first | (go_at_call 88; refine (MkST.mark (by omega) hq (by assumption)).mono ?_; rintro e wm ⟨vm, rfl, hS1, hM⟩) | (go_at_call 16; refine (MkST.same hq (by first | exact hM.out) (by assumption)).mono ?_; rintro e ws ⟨rfl, hS2⟩))
      have hb2 := Lib.hid hS2.2.out.2
      clear hS1 hS2 hM S0
      go_wp2
      go_roundw
      case rel => exact ⟨k + 1, hlt, by go_num, hb2.out⟩
      case measure => simp [intOf]; omega
    · obtain rfl : k = G.length := by omega
      go_wp2
      go_ret
      exact ⟨rfl, hb⟩

set_option maxHeartbeats 3200000 in
theorem bkT_still (B : Nat) (vh vw : Value) (n : Nat) (H W : List Value) (w : World) (hB : w.cell? ⟨B, 2, none⟩ = some vh) (hB2 : w.cell? ⟨B, 3, none⟩ = some vw) (hH : RdAt w vh n H) (hW : RdAt w vw n W) (h1 : H.length = n) (h2 : W.length = n) (hn : n ≤ 1000)
    (hR : ∀ (j : Nat) (h u : Value), H[j]? = some h → W[j]? = some u → ∃ q xs, RdAt w h q xs ∧ RdAt w u q xs ∧ xs.length = q ∧ AllT xs ∧ q ≤ 2000000) :
    Calls Tryz.prog 35 #[.pointer (some ⟨B, 0, none⟩)] w fun e w' => e = .returned (.bool true) ∧ ∃ m, w' = w.drewN m := by
  obtain ⟨a, c, rfl, hH1⟩ := id hH
  obtain ⟨a2, c2, rfl, hW1⟩ := id hW
  replace hH1 := Lib.hid hH1
  replace hW1 := Lib.hid hW1
  replace hR := Lib.hid hR
  replace h1 := Lib.hid h1
  replace h2 := Lib.hid h2
  clear hH hW
  go_enter Tryz.func35, Tryz.ntmps35
  go_wp2
  go_loopw [3] (fun i wr => ∃ k : Nat, k ≤ n ∧ i = .int .i64 k ∧ ∃ m, wr = w.drewN m) (fun i _ => n - (intOf i).toNat)
  case atStart => exact ⟨0, Nat.zero_le _, rfl, 0, rfl⟩
  case round =>
    obtain ⟨k, hk, rfl, m, rfl⟩ := hrel
    have hBm : (w.drewN m).cell? ⟨B, 2, none⟩ = some (.slice a n c) := hB
    have hBm2 : (w.drewN m).cell? ⟨B, 3, none⟩ = some (.slice a2 n c2) := hB2
    by_cases hlt : k < n
    · obtain ⟨h, hh⟩ : ∃ g, H[k]? = some g := ⟨_, List.getElem?_eq_getElem (by rw [h1.out]; exact hlt)⟩
      obtain ⟨u, hu⟩ : ∃ g, W[k]? = some g := ⟨_, List.getElem?_eq_getElem (by rw [h2.out]; exact hlt)⟩
      obtain ⟨q, xs, r1, r2, hx, ha, hq⟩ := hR.out k h u hh hu
      obtain ⟨b, o, rfl, hc⟩ := hH1.out k h hh
      obtain ⟨b2, o2, rfl, hc2⟩ := hW1.out k u hu
      have hcm : (w.drewN m).cell? ⟨b, o + k, none⟩ = some h := hc
      have hcm2 : (w.drewN m).cell? ⟨b2, o2 + k, none⟩ = some u := hc2
      obtain ⟨ah, ch, rfl, _⟩ := id r1
      obtain ⟨au, cu, rfl, _⟩ := id r2
      have cs : ∀ m2, Calls Tryz.prog 16 #[.slice ah q ch, .slice au q cu] (w.drewN (m + m2)) fun e w'' => e = .returned (.bool true) ∧ ∃ n, w'' = w.drewN (m + n) := fun m2 => (bkT_same _ _ q xs (w.drewN (m + m2)) r1 r2 hx ha (by omega)).mono fun _ _ ⟨he, m3, hw⟩ => ⟨he, m2 + m3, by rw [hw]; simp [Nat.add_assoc]⟩
      replace cs := Lib.hid cs
      have hkl : (k : Int) < n := by omega
      clear hh hu r1 r2 hx ha
      go_wp2
      go_quiet (exact cs.out _)
      go_wp2
      go_roundw
      case rel => exact ⟨k + 1, hlt, by go_num, _, rfl⟩
      case measure => simp [intOf]; omega
    · obtain rfl : k = n := by omega
      go_wp2
      go_ret
      exact ⟨rfl, _, rfl⟩
theorem add_oldT {w : World} {b : Nat} {cs : Array Value} {t : TypeId} {o : Obj} (h : b < w.heap.size) (hb : w.heap[b]? = some (.cells cs t (0, 0))) : (w.alloc o).heap[b]? = some (.cells cs t (0, 0)) := (Below.heap_alloc w o b h).trans hb
theorem add_rdT {w w1 : World} {B : Nat} {TS : TypeId} {vh v v' : Value} {n q i : Nat} {H xs ys : List Value} {o : Obj} (h : RdAt w v q xs) (hd : ∀ k, v.ownBlock = some k → k ≠ B ∧ vh.ownBlock ≠ some k) (hp : AppPost (w.alloc o) (B + 1) TS 1 vh n H 1 ys v' w1) : RdAt (w1.setCell ⟨B, i, none⟩ v') v q xs :=
  h.kept (S := fun k => k = B ∨ vh.ownBlock = some k) (((((Chg.refl _ w).alloc o)).trans hp.chg (fun _ _ e => .inr e)).setCell (fun _ => .inl rfl) v') (fun k hk e => e.elim (hd k hk).1 (hd k hk).2)
theorem add_factsT {w w1 : World} {B : Nat} {TS BT : TypeId} {vh vw v' : Value} {n m : Nat} {H W ys : List Value} {o : Obj} {cur : Array Value} (hBl : B < w.heap.size) (hB : w.heap[B]? = some (.cells cur BT (0, 0))) (hc1 : cur[3]? = some vw) (hH : w.ownsRow (B + 1) TS 1 vh n H) (hW : w.ownsRow (B + 1) TS 1 vw m W) (hd : ∀ k, vh.ownBlock = some k → vw.ownBlock ≠ some k) (hp : AppPost (w.alloc o) (B + 1) TS 1 vh n H 1 ys v' w1) :
    (w1.setCell ⟨B, 2, none⟩ v').ownsRow (B + 1) TS 1 vw m W ∧ (w1.setCell ⟨B, 2, none⟩ v').cell? ⟨B, 3, none⟩ = some vw ∧ (w1.setCell ⟨B, 2, none⟩ v').frozen? ⟨B, 3, none⟩ = false ∧ w.heap.size + 1 ≤ (w1.setCell ⟨B, 2, none⟩ v').heap.size := by
  have h1 := hp.chg.heap (add_oldT (o := o) hBl hB) (fun e => by have := (hH.lt B e).1; omega)
  have h2 := heap_setCell (i := 2) h1 v'
  refine ⟨((Chg.refl (fun k => k = B) w1).setCell (a := ⟨B, 2, none⟩) (fun _ => rfl) v').row (hp.chg.row (hW.alloc o) (fun k hk e => hd k e hk)) (fun k hk e => by have := (hW.lt k hk).1; omega), cell_of h2 (by simp [hc1]), free_of h2, by have := hp.grows; simp at this ⊢; exact this⟩
theorem add_facts3T {w2 w3 : World} {B : Nat} {TS : TypeId} {vw : Value} {m : Nat} {W : List Value} (hc : w2.cell? ⟨B, 3, none⟩ = some vw) (hf : w2.frozen? ⟨B, 3, none⟩ = false) (hW : w2.ownsRow (B + 1) TS 1 vw m W) (hb : Below w2.drew.heap.size w2.drew w3) :
    w3.cell? ⟨B, 3, none⟩ = some vw ∧ w3.frozen? ⟨B, 3, none⟩ = false ∧ w3.ownsRow (B + 1) TS 1 vw m W ∧ B < w3.heap.size := by
  have hl : B < w2.heap.size := World.block_lt_of_cell? w2 _ hc
  have hh : w3.heap[B]? = w2.heap[B]? := hb.block B hl
  refine ⟨(World.cell?_of_block (w := w2) (a := ⟨B, 3, none⟩) hh).trans hc, (World.frozen?_of_block (w := w2) (a := ⟨B, 3, none⟩) hh).trans hf, (Chg.of_below (S := fun _ => False) hb).row hW.drew (fun _ _ => id), Nat.lt_of_lt_of_le hl hb.size⟩
theorem add_facts2T {w3 w5 : World} {B : Nat} {TS : TypeId} {vw v' : Value} {m : Nat} {W ys : List Value} {o : Obj} (hl : B < w3.heap.size) (hf : w3.frozen? ⟨B, 3, none⟩ = false) (hc : w3.cell? ⟨B, 3, none⟩ = some vw) (hW : w3.ownsRow (B + 1) TS 1 vw m W) (hp : AppPost (w3.alloc o) (B + 1) TS 1 vw m W 1 ys v' w5) :
    w5.frozen? ⟨B, 3, none⟩ = false ∧ w5.cell? ⟨B, 3, none⟩ = some vw := by
  have hh : w5.heap[B]? = w3.heap[B]? := (hp.chg.block B (by simp; omega) (fun e => by have := (hW.lt B e).1; omega)).trans (Below.heap_alloc w3 o B hl)
  exact ⟨(World.frozen?_of_block (w := w3) (a := ⟨B, 3, none⟩) hh).trans hf, (World.cell?_of_block (w := w3) (a := ⟨B, 3, none⟩) hh).trans hc⟩
set_option maxRecDepth 100000 in
set_option maxHeartbeats 3200000 in
theorem bkT_add (B : Nat) (vh vw v : Value) (n q : Nat) (H W xs : List Value) (cur : Array Value) (w : World) (hB : w.heap[B]? = some (.cells cur 46 (0, 0))) (hc0 : cur[2]? = some vh) (hc1 : cur[3]? = some vw)
    (hH : w.ownsRow (B + 1) 24 1 vh n H) (hW : w.ownsRow (B + 1) 24 1 vw n W) (hd : ∀ k, vh.ownBlock = some k → vw.ownBlock ≠ some k) (hv : RdAt w v q xs) (hvd : ∀ k, v.ownBlock = some k → k ≠ B ∧ vh.ownBlock ≠ some k) (hx : xs.length = q) (h1 : ∀ u ∈ xs, u.oneCell' = true) (hq : q ≤ 1000000) (hn : n < 250) :
    Calls Tryz.prog 13 #[.pointer (some ⟨B, 0, none⟩), v] w fun e w' => e = .returned (.tuple #[]) ∧ AddPost w B 24 9 1 vh vw v n q H W xs 2 3 w' := by
  obtain ⟨is, his0, hsz0, hsz1, hsz2⟩ := info_parts bkT_infoS
  have hcc0 : w.cell? ⟨B, 2, none⟩ = some vh := cell_of hB hc0
  have hfz0 : w.frozen? ⟨B, 2, none⟩ = false := free_of hB
  obtain ⟨ah, mh, ch, rfl, rfl⟩ := own_form hH
  obtain ⟨aw, mw, cw, rfl, rfl⟩ := own_form hW
  obtain ⟨a, c, rfl, _⟩ := id hv
  have hBl := lt_of hB
  have hnl : (mw : Int) < 250 := by omega
  replace hH := Lib.hid hH
  replace hW := Lib.hid hW
  replace hv := Lib.hid hv
  replace hx := Lib.hid hx
  replace h1 := Lib.hid h1
  replace hd := Lib.hid hd
  replace hvd := Lib.hid hvd
  replace hB := Lib.hid hB
  replace hc0 := Lib.hid hc0
  replace hc1 := Lib.hid hc1
  go_enter Tryz.func13, Tryz.ntmps13
  go_wp2_with (at_builtin; refine wpList_append_rd rfl _ _ 37 rfl (B + 1) 24 is (.slice none 0 0) 1 24 Tryz.underlying37 his0 hsz0 hsz1 hsz2 rfl (by decide) _ mw H rfl (hH.out.alloc _) _ 1 [.slice a q c] rfl rfl (by go_simp; exact RdAt.new1T _ rfl) (by intro u hu; rw [List.mem_singleton.1 hu]; rfl) (by unfold maxLen; omega) (by omega) (by simp; omega) ?_; intro v1 w1 hp1; obtain ⟨ah1, m1, ch1, rfl, rfl⟩ := own_form hp1.1; have hP1 := Lib.hid hp1; have hw1 := hp1.grows; have hfz1 : w1.frozen? ⟨B, 2, none⟩ = false := free_of ((hp1.chg.heap (add_oldT hBl hB.out) (fun e => by have := (hH.out.lt B e).1; omega))); have hcl1 : w1.cell? ⟨B, 2, none⟩ = some (.slice ah mw ch) := cell_of ((hp1.chg.heap (add_oldT hBl hB.out) (fun e => by have := (hH.out.lt B e).1; omega))) hc0.out; clear hp1)
  obtain ⟨w2, hw2⟩ : ∃ w2, w2 = w1.setCell ⟨B, 2, none⟩ (.slice ah1 (mw + 1) ch1) := ⟨_, rfl⟩
  have hRv := Lib.hid (add_rdT (i := 2) hv.out hvd.out hP1.out)
  have hF2 := add_factsT hBl hB.out hc1.out hH.out hW.out hd.out hP1.out
  rw [← hw2] at hRv hF2 ⊢
  obtain ⟨hW2, hcw2, hfz2, hs2⟩ := hF2
  replace hW2 := Lib.hid hW2
  replace hw2 := Lib.hid hw2
  clear hfz1 hcl1
  go_region_law (first | (refine step_append_rd rfl (.tmp 24) (.tmp 27) 37 rfl (B + 1) 24 is (.slice none 0 0) 1 24 Tryz.underlying37 his0 hsz0 hsz1 hsz2 rfl (by decide) (.slice aw mw cw) mw W (by simp [Act.eval]) (hW3.out.alloc _) (.slice (some ⟨w3.heap.size, 0, none⟩) 1 1) 1 [.slice ac q cc] (by simp [Act.eval]) rfl (RdAt.new1T _ rfl) (by intro u hu; rw [List.mem_singleton.1 hu]; rfl) (by unfold maxLen; omega) (by omega) (by simp; omega) ?_; intro v5 w5 hp5; obtain ⟨ah5, m5, ch5, rfl, rfl⟩ := own_form hp5.1; have hP5 := Lib.hid hp5; have hF5 := add_facts2T hBl3 hfz3 hcw3 hW3.out hp5; obtain ⟨hfz5, hcw5⟩ := hF5; clear hp5) | (go_simp; go_at_call 30; refine (bkT_copy _ q xs w2.drew hRv.out hx.out h1.out hq).mono ?_; rintro e w3 ⟨cp, rfl, ho3, hb3⟩; have hF3 := add_facts3T hcw2 hfz2 hW2.out hb3; obtain ⟨hcw3, hfz3, hW3, hBl3⟩ := hF3; replace hW3 := Lib.hid hW3; obtain ⟨ac, mc, cc, e7, e8⟩ := own_form ho3; rw [e8] at e7; subst e7; clear e8; replace ho3 := Lib.hid ho3; replace hb3 := Lib.hid hb3))
  all_goals
    go_end0
    exact ⟨rfl, _, w1, w2, _, w3, _, w5, _, _, hP1.out, hw2.out, ho3.out, hb3.out, hP5.out, rfl⟩
section
variable {B : Nat} {vh vw v vo : Value} {L : List Lst} {S : Nat → Prop} {cur : Array Value} {base : Nat} {w : World}
theorem bkT_keep {q : Nat} {xs : List Value} (hK : KS 24 9 1 base w B vh vw L S) (hB : w.heap[B]? = some (.cells cur 46 (0, 0))) (hc0 : cur[2]? = some vh) (hc1 : cur[3]? = some vw) (hv : w.ownsRow base 9 1 v q xs) (hvS : ∀ k, v.ownBlock = some k → ¬ S k ∧ k ≠ B) (hx : xs.length = q) (h1 : ∀ u ∈ xs, u.oneCell' = true) (hq : q ≤ 1000000) (hn : L.length < 250) :
    Calls Tryz.prog 13 #[.pointer (some ⟨B, 0, none⟩), v] w fun e w' => e = .returned (.tuple #[]) ∧ ∃ vh' vw', w'.heap[B]? = some (.cells ((cur.setIfInBounds 2 vh').setIfInBounds 3 vw') 46 (0, 0)) ∧ KS 24 9 1 base w' B vh' vw' (L ++ [⟨v, q, xs⟩]) (fun k => S k ∨ v.ownBlock = some k ∨ (w.heap.size ≤ k ∧ k < w'.heap.size)) ∧ Chg (fun k => k = B ∨ S k) w w' := by
  obtain ⟨W, hW, hW2⟩ := hK.wd
  refine (bkT_add B vh vw v L.length q _ W xs cur w hB hc0 hc1 hK.hd hW (fun k hk => (hK.sh k hk).2.2) (RdAt.own hv) (fun k hk => ⟨by have := (hvS k hk).2; omega, fun e => (hvS k hk).1 (hK.sh k e).1⟩) hx h1 hq hn).mono ?_
  rintro e w' ⟨rfl, hp⟩
  exact ⟨rfl, hK.add hW hW2 hB hv hvS hp⟩
theorem bkT_stillK (hK : KS 24 9 1 base w B vh vw L S) (hB : w.heap[B]? = some (.cells cur 46 (0, 0))) (hc0 : cur[2]? = some vh) (hc1 : cur[3]? = some vw) (hn : L.length < 250) (hx : ∀ l ∈ L, l.xs.length = l.n ∧ AllT l.xs ∧ l.n ≤ 1000000) :
    Calls Tryz.prog 35 #[.pointer (some ⟨B, 0, none⟩)] w fun e w' => e = .returned (.bool true) ∧ ∃ m, w' = w.drewN m := by
  obtain ⟨W, hW, hW2⟩ := hK.wd
  refine bkT_still B vh vw L.length _ W w (cell_of hB hc0) (cell_of hB hc1) (RdAt.own hK.hd) (RdAt.own hW) (by simp) (by have := hW.1; omega) (by omega) (fun j h u hh hu => ?_)
  rw [List.getElem?_map] at hh
  obtain ⟨l, hl, rfl⟩ := Option.map_eq_some_iff.1 hh
  obtain ⟨hj, rfl⟩ := List.getElem?_eq_some_iff.1 hl
  obtain ⟨e1, e2, e3⟩ := hx _ (List.getElem_mem hj)
  exact ⟨_, _, RdAt.own (hK.rows j hj), (hW2 j hj u hu).1, e1, e2, by omega⟩
theorem bkT_putK (hK : KS 24 9 1 base w B vh vw L S) (hB : w.heap[B]? = some (.cells cur 46 (0, 0))) (hc0 : cur[2]? = some vh) (hn : L.length < 250) (hx : ∀ l ∈ L, l.n ≤ 1000000) :
    Calls Tryz.prog 45 #[.pointer (some ⟨B, 0, none⟩)] w fun e w' => e = .returned (.tuple #[]) ∧ KP 24 9 1 base bkT w' B vh L S ∧ Chg S w w' := by
  refine (bkT_put B vh L (fun j => (L[j]?.map (·.xs)).getD []) base w (cell_of hB hc0) (RdAt.own hK.hd) (fun j hj => by simpa [hj] using hK.rows j hj) hK.dis (fun k hk => ⟨by have := (hK.lt k (hK.sl k hk)).1; omega, fun e => (hK.sh k e).2.1 hk⟩) (by omega) (fun j hj => hx _ (List.getElem_mem hj))).mono ?_
  rintro e w' ⟨rfl, hr, hc⟩
  exact ⟨rfl, hK.put hr hc⟩
theorem bkT_growK (hK : KP 24 9 1 base bkT w B vh L S) (hB : w.heap[B]? = some (.cells cur 46 (0, 0))) (hc0 : cur[2]? = some vh) (hn : L.length < 250) (hx : ∀ l ∈ L, l.n ≤ 1000000) (hb : base ≤ w.heap.size) :
    Calls Tryz.prog 53 #[.pointer (some ⟨B, 0, none⟩)] w fun e w' => ∃ vo G, e = .returned vo ∧ KG bkT w' vh vo L (fun k => S k ∨ (w.heap.size ≤ k ∧ k < w'.heap.size)) G ∧ Chg S w w' := by
  refine (bkT_grow B vh L base w (cell_of hB hc0) (RdAt.own hK.hd) hK.rows hK.dis (fun k hk => ⟨by have := (hK.lt k (hK.sl k hk)).1; omega, fun e => (hK.sh k e).2 hk⟩) (by omega) (fun j hj => hx _ (List.getElem_mem hj)) hb).mono ?_
  rintro e w' ⟨vo, rfl, hg, hc⟩
  obtain ⟨G, h1, h2⟩ := hK.grow hg hc
  exact ⟨vo, G, rfl, h1, h2⟩
theorem bkT_markedG {G : List Value} (hK : KG bkT w vh vo L S G) (hn : L.length < 250) (hx : ∀ l ∈ L, l.n ≤ 1000000) :
    Calls Tryz.prog 62 #[vo] w fun e w' => e = .returned (.bool true) ∧ Below w.heap.size w w' :=
  bkT_marked vo G (fun j => nOf L j + 72) w (by rw [hK.len]; exact hK.out) (fun j g hg => by
    have hj : j < L.length := by have := (List.getElem?_eq_some_iff.1 hg).1; have := hK.len; omega
    have := hx _ (List.getElem_mem hj)
    rw [nOf_at hj]
    exact ⟨(hK.each j hj g hg).1, by omega⟩) (by have := hK.len; omega)
theorem bkT_markedH {G : List Value} (hK : KG bkT w vh vo L S G) (hn : L.length < 250) (hx : ∀ l ∈ L, l.n ≤ 1000000) :
    Calls Tryz.prog 62 #[vh] w fun e w' => e = .returned (.bool true) ∧ Below w.heap.size w w' :=
  bkT_marked vh (L.map (·.v)) (fun j => nOf L j) w (by rw [List.length_map]; exact hK.hd) (fun j g hg => by
    rw [List.getElem?_map] at hg
    obtain ⟨l, hl, rfl⟩ := Option.map_eq_some_iff.1 hg
    obtain ⟨hj, rfl⟩ := List.getElem?_eq_some_iff.1 hl
    have := hx _ (List.getElem_mem hj)
    have hj2 : j < G.length := by rw [hK.len]; exact hj
    rw [nOf_at hj]
    exact ⟨(hK.each j hj _ (List.getElem?_eq_getElem hj2)).2.1, by omega⟩) (by rw [List.length_map]; omega)
end
end Go.Proofs.YtaecfgakgpndaaaGreat
