/- The walk of the law DiskLast. No condition. -/
import Derived.Test.YtnphpnbliigfbaaLd
import Derived.Test.YtnphpnbliigfbaaOpenBools
namespace Go.Proofs.Ytnphpnbliigfbaa
open Go.RowKit

def bs (i : Nat) : List UInt8 := fill [UInt8.ofNat (i + 1)]
def dl (j : Nat) : Dk := { safe := [zsec, zsec], pend := (List.range j).map (fun i => (1, bs i)), stops := false, after := 0, dead := false }
def wl (ks : List Bool) : Nat → List UInt8
  | 0 => zsec
  | j + 1 => if ks.getD j false then bs j else wl ks j
theorem dl_zero : dnew 2 = dl 0 := rfl
theorem dl_len (j : Nat) : (dl j).pend.length = j := by simp [dl]
theorem dl_write (j : Nat) : dwrite (dl j) 1 (bs j) = (dl (j + 1), 0) := by
  have h : (bs j).length = 64 := fill_length _
  simp [dwrite, dl, isIn, h, List.range_succ]
theorem dl_read (j : Nat) : dread (dl (j + 1)) 1 = (bs j, 0) := by
  have h : latest (dl (j + 1)).pend 1 = some (bs j) := by simp [dl, List.range_succ, latest_snoc]
  rw [dread, if_neg (by simp [dl]), if_pos (by simp [isIn, dl]), show (1 : Int).toNat = 1 from rfl, h]
  rfl
theorem dl_kept (ks : List Bool) : ∀ j, dset [zsec, zsec] (keptOf ((List.range j).map (fun i => (1, bs i))) ks) = [zsec, wl ks j]
  | 0 => rfl
  | j + 1 => by
    have ih := dl_kept ks j
    rw [List.range_succ, List.map_append, List.map_cons, List.map_nil, keptOf_snoc, List.length_map, List.length_range, wl]
    by_cases h : ks.getD j false = true
    · rw [if_pos h, if_pos h, dset_snoc, ih]; rfl
    · rw [if_neg h, if_neg h, List.append_nil, ih]
theorem dl_crash (ks : List Bool) (j : Nat) : ∃ c, dcrash (dl j) ks = ({ safe := [zsec, wl ks j], pend := [], stops := false, after := 0, dead := false }, c) :=
  ⟨_, by rw [dcrash, show (dl j).safe = [zsec, zsec] from rfl, show (dl j).pend = (List.range j).map (fun i => (1, bs i)) from rfl, dl_kept]⟩
theorem wl_read (ks : List Bool) (j : Nat) : dread { safe := [zsec, wl ks j], pend := [], stops := false, after := 0, dead := false } 1 = (wl ks j, 0) := rfl
theorem fill_nil : fill [] = zsec := by rw [zsec_eq]; rfl
theorem BAt.was {w0 w : World} {a : Option Addr} {ks : List Bool} (hc : BAt w0 a ks) (b : Below w0.heap.size w0 w) : BAt w a ks := by
  intro j hj
  obtain ⟨k, o, rfl, h1⟩ := hc j hj
  exact ⟨k, o, rfl, (World.cell?_of_block (w := w0) (b.block k (World.block_lt_of_cell? w0 _ h1))).trans h1⟩

set_option maxRecDepth 10000 in
set_option maxHeartbeats 1600000 in
theorem diskLast_walk (v : Value) (ks : List Bool) (w : World) (hv : IsBools w v ks) :
    Calls Try.prog 4 #[v] w fun e w' => e = .returned (.bool true) ∧ Below w.heap.size w w' := by
  obtain ⟨a, c, rfl, hB⟩ := hv
  replace hB := Lib.hid hB
  by_cases g1 : 30 < (ks.length : Int)
  · go_enter Try.func4, Try.ntmps4
    go_wp2_with (go_at_call 12; refine (alive_true _).mono ?_; rintro e w1 ⟨rfl, h⟩)
    go_ret
    exact ⟨rfl, h⟩
  go_enter Try.func4, Try.ntmps4
  go_wp2_with (go_at_call 12; refine (alive_true _).mono ?_; rintro e w1 ⟨rfl, h⟩)
  refine (iNew 2 (by omega) (by omega) h h.size).mono ?_
  rintro e w2 ⟨B, rfl, h2⟩
  rw [dl_zero] at h2
  replace h2 := Lib.hid h2
  clear h
  go_wp2_with fail
  refine (fill_any [] _).mono ?_
  rintro e w3 ⟨rfl, b3⟩
  have h3 := Lib.hid (h2.out.more b3)
  clear h2 b3
  go_wp2_with fail
  go_loopw [4, 25] (fun s i wr => ∃ j : Nat, j ≤ ks.length ∧ i = .int .i64 j ∧ s = .string (mk (wl ks j)) ∧ DIn w.heap.size w wr B (dl j)) (fun _ i _ => ks.length - (intOf i).toNat)
  case atStart => exact ⟨0, Nat.zero_le _, rfl, by rw [fill_nil]; rfl, h3.out⟩
  case round =>
    obtain ⟨j, hj, rfl, rfl, hd⟩ := hrel
    replace hd := Lib.hid hd
    clear h3
    by_cases hlt : j < ks.length
    · obtain ⟨b, o, rfl, hcell⟩ := hB.out j hlt
      obtain ⟨x, hx⟩ : ∃ x, x = ks[j] := ⟨_, rfl⟩
      rw [← hx] at hcell
      have hwl : wl ks (j + 1) = if x then bs j else wl ks j := by
        rw [wl, hx]; simp [List.getD, hlt]
      have hj30 : j < 30 := by omega
      obtain ⟨u, hu⟩ : ∃ u, u = UInt8.ofNat (j + 1) := ⟨_, rfl⟩
      have hbs : bs j = fill [u] := by rw [bs, hu]
      rw [hbs] at hwl
      have hcv : (convert 35 9 (.slice (some ⟨wr.heap.size, 0, none⟩) 1 1)).run Try.prog (wr.alloc (.cells #[.int .u8 ((j : Int) + 1)] 5)) = .ok (.string (mk [u])) (wr.alloc (.cells #[.int .u8 ((j : Int) + 1)] 5)) := by
        refine run_convert_bytes_back _ 35 9 5 ⟨wr.heap.size, 0, none⟩ 1 [u] Try.underlying35 Try.underlying5 Try.underlying9 ?_
        intro i hi
        have : i = 0 := by simp at hi; exact hi
        subst this
        have e : ((j : Int) + 1) = (u.toNat : Int) := by rw [hu, UInt8.toNat_ofNat']; omega
        rw [Addr.add_lit]
        refine cell_of (heap_alloc_new wr _) ?_
        simp only [List.getElem_cons_zero, ← e]
        rfl
      replace hwl := Lib.hid hwl
      replace hbs := Lib.hid hbs
      have hcl := Lib.hid hcell
      clear hx hu hcell
      go_wp2_with fail
      refine (fill_any [u] _).mono ?_
      rintro e w4 ⟨rfl, b4⟩
      have h4 := Lib.hid ((hd.out.more ((Below.refl wr.heap.size wr).alloc (Nat.le_refl _) _)).more b4)
      clear b4 hd hcv
      rw [← hbs.out]
      go_wp2_with fail
      refine (iWrite 1 (bs j) (dl_write j) (by rw [dl_len]; omega) h4.out).mono ?_
      rintro e w5 ⟨rfl, h5⟩
      replace h5 := Lib.hid h5
      clear h4
      have hlt' := World.block_lt_of_cell? w _ hcl.out
      have hcell := (World.cell?_of_block (w := w) (h5.out.was.1.block b hlt')).trans hcl.out
      clear hlt'
      cases x
      · have hwn : wl ks (j + 1) = wl ks j := by rw [hwl.out]; rfl
        replace hwn := Lib.hid hwn
        go_wp2_with fail
        refine (iRead 1 (dl_read j) h5.out).mono ?_
        rintro e w6 ⟨rfl, rfl⟩
        go_wp2
        go_roundw
        case rel => exact ⟨j + 1, hlt, by go_num, by rw [hwn.out], h5.out⟩
        case measure => simp [intOf]; omega
      · have hwn : wl ks (j + 1) = bs j := by rw [hwl.out, hbs.out]; rfl
        replace hwn := Lib.hid hwn
        go_wp2_with fail
        refine (iRead 1 (dl_read j) h5.out).mono ?_
        rintro e w6 ⟨rfl, rfl⟩
        go_wp2
        go_roundw
        case rel => exact ⟨j + 1, hlt, by go_num, by rw [hwn.out], h5.out⟩
        case measure => simp [intOf]; omega
    · obtain rfl : j = ks.length := by omega
      obtain ⟨n, hq⟩ := dl_crash ks ks.length
      replace hq := Lib.hid hq
      go_wp2_with fail
      refine (iCrash a c ks hq.out (hB.out.was hd.out.was.1) (by omega) hd.out).mono ?_
      rintro e w4 ⟨rfl, h4⟩
      replace h4 := Lib.hid h4
      go_wp2_with fail
      refine (iRead 1 (wl_read ks ks.length) h4.out).mono ?_
      rintro e w6 ⟨rfl, rfl⟩
      go_wp2
      go_ret
      exact ⟨rfl, h4.out.was.1⟩
end Go.Proofs.Ytnphpnbliigfbaa
