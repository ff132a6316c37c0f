/- The walk of the law DiskKeeps. No condition. -/
import Derived.Test.YtnphpnbliigfbaaLd
import Derived.Test.YtnphpnbliigfbaaLLast
import Derived.Deep.RegionHeld3
namespace Go.Proofs.Ytnphpnbliigfbaa
open Go.RowKit

def fs : List UInt8 := fill [115, 121, 110, 99, 101, 100]
def sk : List (List UInt8) := (List.replicate 40 zsec).set 39 fs
def dk (j : Nat) : Dk := { safe := sk, pend := run fx j, stops := false, after := 0, dead := false }
def dk1 : Dk := { safe := List.replicate 40 zsec, pend := [(39, fs)], stops := false, after := 0, dead := false }
def dkc (ks : List Bool) (j : Nat) : Dk := { safe := dset sk (keptOf (run fx j) ks), pend := [], stops := false, after := 0, dead := false }
theorem sk_len : sk.length = 40 := by simp [sk]
theorem dk_one : dwrite (dnew 40) 39 fs = (dk1, 0) := by
  have h : fs.length = 64 := fill_length _
  simp [dwrite, dnew, isIn, h, dk1]
theorem dk_two : dsync dk1 = (dk 0, 0) := rfl
theorem dk_len (j : Nat) : (dk j).pend.length = j := run_length _ _
theorem dk_write (j : Nat) (hj : j < 40) : dwrite (dk j) j fx = (dk (j + 1), 0) := by
  have h : fx.length = 64 := fill_length _
  simp [dwrite, dk, isIn, h, run_snoc, sk_len]
  omega
theorem dk_crash (ks : List Bool) (j : Nat) : dcrash (dk j) ks = (dkc ks j, (keptOf (run fx j) ks).length) := rfl
theorem dk_kept (ks : List Bool) (j : Nat) : keptOf (run fx (j + 1)) ks = keptOf (run fx j) ks ++ if ks.getD j false then [(j, fx)] else [] := by
  rw [← run_snoc, keptOf_snoc, run_length]
theorem dk_set (ks : List Bool) (i : Nat) : ∀ j, j ≤ 40 → (dset sk (keptOf (run fx j) ks)).getD i [] = if i < j ∧ ks.getD i false = true then fx else sk.getD i []
  | 0, _ => by simp [run, keptOf, dset]
  | j + 1, hj => by
    have ih := dk_set ks i j (by omega)
    rw [dk_kept]
    by_cases h : ks.getD j false = true
    · rw [if_pos h, dset_snoc]
      have hl := dset_length (keptOf (run fx j) ks) sk
      rw [sk_len] at hl
      by_cases e : i = j
      · subst e
        rw [if_pos ⟨by omega, h⟩]
        rw [List.getD, List.getElem?_set_self (by omega)]
        rfl
      · rw [List.getD, List.getElem?_set_ne (by simpa using Ne.symm e), ← List.getD, ih]
        by_cases c : i < j
        · simp [c, show i < j + 1 by omega]
        · simp [c, show ¬ i < j + 1 by omega]
    · rw [if_neg h, List.append_nil, ih]
      by_cases e : i = j
      · subst e
        rw [if_neg (by omega), if_neg (by simpa using h)]
      · by_cases c : i < j
        · simp [c, show i < j + 1 by omega]
        · simp [c, show ¬ i < j + 1 by omega]
theorem dk_read (ks : List Bool) (j i : Nat) (hj : j ≤ 30) (h : i < j) : dread (dkc ks j) i = (if ks.getD i false then fx else zsec, 0) := by
  have h1 : isIn (dkc ks j) i = true := by simp [isIn, dkc, dset_length, sk_len]; omega
  have h2 : (dkc ks j).safe.getD i [] = if ks.getD i false then fx else zsec := by
    rw [show (dkc ks j).safe = dset sk (keptOf (run fx j) ks) from rfl, dk_set ks i j (by omega)]
    by_cases c : ks.getD i false = true
    · rw [if_pos ⟨h, c⟩, if_pos c]
    · rw [if_neg (fun e => c e.2), if_neg c, sk, List.getD, List.getElem?_set_ne (by omega)]
      rw [List.getElem?_replicate, if_pos (by omega)]
      rfl
  rw [dread, if_neg (by simp [dkc]), if_pos h1, Int.toNat_natCast, h2]
  rfl
theorem dk_last (ks : List Bool) (j : Nat) (hj : j ≤ 30) : dread (dkc ks j) 39 = (fs, 0) := by
  have h1 : isIn (dkc ks j) 39 = true := by simp [isIn, dkc, dset_length, sk_len]
  have h2 : (dkc ks j).safe.getD 39 [] = fs := by
    rw [show (dkc ks j).safe = dset sk (keptOf (run fx j) ks) from rfl, dk_set ks 39 j (by omega), if_neg (by omega), sk, List.getD, List.getElem?_set_self (by simp)]
    rfl
  rw [dread, if_neg (by simp [dkc]), if_pos h1, show (39 : Int).toNat = 39 from rfl, h2]
  rfl
theorem fill_more (l : List UInt8) {H : Nat} {w0 w : World} {B : Nat} {d : Dk} (h : DIn H w0 w B d) : Calls Try.prog 15 #[.string (mk l)] w fun e w' => e = .returned (.string (mk (fill l))) ∧ DIn H w0 w' B d :=
  (fill_any l w).mono fun _ _ ⟨he, hb⟩ => ⟨he, h.more hb⟩
theorem DIn.drew {H : Nat} {w0 w : World} {B : Nat} {d : Dk} (h : DIn H w0 w B d) : DIn H w0 w.drew B d := h.more (Below.refl _ _).drew
/-- Fill leaves a truth and the disk. -/
theorem fill_ks (l : List UInt8) {H : Nat} {w0 w : World} {B : Nat} {d : Dk} {p : Addr} {x : Bool} (h : w.cell? p = some (.bool x) ∧ Hid (DIn H w0 w B d)) : Calls Try.prog 15 #[.string (mk l)] w fun e w' => e = .returned (.string (mk (fill l))) ∧ w'.cell? p = some (.bool x) ∧ Hid (DIn H w0 w' B d) :=
  (fill_any l w).mono fun _ _ ⟨he, hb⟩ => ⟨he, (World.cell?_of_block (w := w) (hb.block _ (World.block_lt_of_cell? w _ h.1))).trans h.1, Lib.hid (h.2.out.more hb)⟩
theorem BAt.cell {w : World} {b o : Nat} {ks : List Bool} (h : BAt w (some ⟨b, o, none⟩) ks) (j : Nat) (hj : j < ks.length) : w.cell? ⟨b, o + j, none⟩ = some (.bool ks[j]) := by
  obtain ⟨k, p, e, h⟩ := h j hj
  cases e
  exact h

set_option maxRecDepth 10000 in
set_option maxHeartbeats 1600000 in
theorem diskKeeps_walk (v : Value) (ks : List Bool) (w : World) (hv : IsBools w v ks) :
    Calls Try.prog 3 #[v] w fun e w' => e = .returned (.bool true) ∧ Below w.heap.size w w' := by
  obtain ⟨a, c, rfl, hB⟩ := hv
  replace hB := Lib.hid hB
  by_cases g1 : 30 < (ks.length : Int)
  · go_enter Try.func3, Try.ntmps3
    go_wp2_with (go_at_call 12; refine (alive_true _).mono ?_; rintro e w1 ⟨rfl, h⟩)
    go_ret
    exact ⟨rfl, h⟩
  go_enter Try.func3, Try.ntmps3
  go_wp2_with (go_at_call 12; refine (alive_true _).mono ?_; rintro e w1 ⟨rfl, h⟩)
  refine (iNew 40 (by omega) (by omega) h h.size).mono ?_
  rintro e w2 ⟨B, rfl, h2⟩
  replace h2 := Lib.hid h2
  clear h
  go_wp2_with fail
  refine (fill_more [115, 121, 110, 99, 101, 100] h2.out).mono ?_
  rintro e w3 ⟨rfl, h3⟩
  replace h3 := Lib.hid h3
  clear h2
  go_wp2_with fail
  refine (iWrite 39 fs dk_one (by simp [dnew]) h3.out).mono ?_
  rintro e w4 ⟨rfl, h4⟩
  replace h4 := Lib.hid h4
  clear h3
  go_wp2_with fail
  refine (iSync dk_two h4.out).mono ?_
  rintro e w5 ⟨rfl, h5⟩
  replace h5 := Lib.hid h5
  clear h4
  go_wp2_with fail
  go_loopw [4, 35] (fun s i wr => ∃ j : Nat, j ≤ ks.length ∧ i = .int .i64 j ∧ s = .int .i64 (keptOf (run fx j) ks).length ∧ DIn w.heap.size w wr B (dk j)) (fun _ i _ => ks.length - (intOf i).toNat)
  case atStart => exact ⟨0, Nat.zero_le _, rfl, rfl, h5.out⟩
  case round =>
    obtain ⟨j, hj, rfl, rfl, hd⟩ := hrel
    replace hd := Lib.hid hd
    clear h5
    have hkl : (keptOf (run fx j) ks).length ≤ 30 := by
      have := keptOf_length (run fx j) ks
      rw [run_length] at this
      omega
    by_cases hlt : j < ks.length
    · obtain ⟨b, o, rfl, hcell⟩ := hB.out j hlt
      obtain ⟨x, hx⟩ : ∃ x, x = ks[j] := ⟨_, rfl⟩
      have hk := dk_kept ks j
      rw [List.getD, List.getElem?_eq_getElem hlt, ← hx] at hk
      have hkl' := congrArg List.length hk
      rw [List.length_append] at hkl'
      replace hkl' := Lib.hid hkl'
      rw [← hx] at hcell
      have hcl := Lib.hid hcell
      clear hx hcell hk
      generalize (keptOf (run fx j) ks).length = cnt at *
      go_wp2_with fail
      refine (fill_more [120] hd.out).mono ?_
      rintro e w6 ⟨rfl, h6⟩
      replace h6 := Lib.hid h6
      clear hd
      go_wp2_with fail
      refine (iWrite j fx (dk_write j (by omega)) (by rw [dk_len]; omega) h6.out).mono ?_
      rintro e w7 ⟨rfl, h7⟩
      replace h7 := Lib.hid h7
      clear h6
      have hlt' := World.block_lt_of_cell? w _ hcl.out
      have hcell := (World.cell?_of_block (w := w) (h7.out.was.1.block b hlt')).trans hcl.out
      clear hlt'
      cases x
      · have e1 : (keptOf (run fx (j + 1)) ks).length = cnt := by rw [hkl'.out]; rfl
        replace e1 := Lib.hid e1
        go_wp2
        go_roundw
        case rel => exact ⟨j + 1, hlt, by go_num, by rw [e1.out], h7.out⟩
        case measure => simp [intOf]; omega
      · have e1 : (keptOf (run fx (j + 1)) ks).length = cnt + 1 := by rw [hkl'.out]; rfl
        replace e1 := Lib.hid e1
        go_wp2
        go_roundw
        case rel => exact ⟨j + 1, hlt, by go_num, by rw [e1.out]; go_num, h7.out⟩
        case measure => simp [intOf]; omega
    · obtain rfl : j = ks.length := by omega
      go_wp2_with fail
      refine (iCrash a c ks (dk_crash ks ks.length) (hB.out.was hd.out.was.1) (by omega) hd.out).mono ?_
      rintro e w6 ⟨rfl, h6⟩
      replace h6 := Lib.hid h6
      clear hd
      generalize (keptOf (run fx ks.length) ks).length = cnt at *
      go_wp2_with fail
      refine (iPending h6.out).mono ?_
      rintro e w7 ⟨rfl, rfl⟩
      rw [show (((dkc ks ks.length).pend.length : Nat) : Int) = 0 from rfl]
      go_wp2_with fail
      have n1 : (mk zsec == mk (fill [120])) = false := by kernel_rfl
      have n2 : (mk zsec == mk (fill [])) = true := by kernel_rfl
      have n3 : (mk fx == mk (fill [120])) = true := by kernel_rfl
      have n4 : (mk fx == mk (fill [])) = false := by kernel_rfl
      replace n1 := Lib.hid n1
      replace n2 := Lib.hid n2
      replace n3 := Lib.hid n3
      replace n4 := Lib.hid n4
      clear hkl
      obtain ⟨wo, hwo⟩ : ∃ wo : World, wo = w6 := ⟨_, rfl⟩
      go_loopw [62] (fun i wr => ∃ j : Nat, j ≤ ks.length ∧ i = .int .i64 j ∧ DIn w.heap.size w wr B (dkc ks ks.length)) (fun i _ => ks.length - (intOf i).toNat)
      case atStart => exact ⟨0, Nat.zero_le _, rfl, h6.out⟩
      case round =>
        obtain ⟨j, hj, rfl, hd⟩ := hrel
        replace hd := Lib.hid hd
        clear h6
        by_cases hlt : j < ks.length
        · obtain ⟨b, o, rfl, hcell⟩ := hB.out j hlt
          have hr := dk_read ks ks.length j (by omega) hlt
          rw [List.getD, List.getElem?_eq_getElem hlt] at hr
          obtain ⟨x, hx⟩ : ∃ x, x = ks[j] := ⟨_, rfl⟩
          rw [Option.getD_some, ← hx] at hr
          rw [← hx] at hcell
          have hcl := Lib.hid hcell
          clear hx hcell
          have hlt' := World.block_lt_of_cell? w _ hcl.out
          have hcell := (World.cell?_of_block (w := w) (hd.out.was.1.block b hlt')).trans hcl.out
          clear hlt'
          cases x
          · replace hr := Lib.hid hr
            go_wp2_with fail
            refine (iRead j hr.out hd.out).mono ?_
            rintro e w7 ⟨rfl, rfl⟩
            rw [if_neg (by decide)]
            go_wp2
            replace n1 := n1.out
            replace n2 := n2.out
            replace n3 := n3.out
            replace n4 := n4.out
            go_region_held3 (fun w' => w'.cell? ⟨b, o + j, none⟩ = some (.bool false) ∧ Hid (DIn w.heap.size w w' B (dkc ks ks.length))) (first | exact ⟨hcell, Lib.hid hd.out.drew⟩ | assumption) (first | (go_at_call 15; refine (fill_ks _ (by assumption)).mono ?_; rintro e wq ⟨rfl, hq⟩))
            go_wp2
            go_roundw
            case rel => exact ⟨j + 1, hlt, by go_num, hq.2.out⟩
            case measure => simp [intOf]; omega
          · replace hr := Lib.hid hr
            go_wp2_with fail
            refine (iRead j hr.out hd.out).mono ?_
            rintro e w7 ⟨rfl, rfl⟩
            rw [if_pos True.intro]
            go_wp2
            replace n1 := n1.out
            replace n2 := n2.out
            replace n3 := n3.out
            replace n4 := n4.out
            go_region_held3 (fun w' => w'.cell? ⟨b, o + j, none⟩ = some (.bool true) ∧ Hid (DIn w.heap.size w w' B (dkc ks ks.length))) (first | exact ⟨hcell, Lib.hid hd.out.drew⟩ | assumption) (first | (go_at_call 15; refine (fill_ks _ (by assumption)).mono ?_; rintro e wq ⟨rfl, hq⟩))
            go_wp2
            go_roundw
            case rel => exact ⟨j + 1, hlt, by go_num, hq.2.out⟩
            case measure => simp [intOf]; omega
        · obtain rfl : j = ks.length := by omega
          go_wp2_with fail
          refine (iRead 39 (dk_last ks ks.length (by omega)) hd.out).mono ?_
          rintro e w7 ⟨rfl, rfl⟩
          go_wp2_with fail
          refine (fill_more [115, 121, 110, 99, 101, 100] hd.out).mono ?_
          rintro e w8 ⟨rfl, h8⟩
          rw [show fill [115, 121, 110, 99, 101, 100] = fs from rfl]
          replace h8 := Lib.hid h8
          clear hd
          go_wp2
          go_ret
          exact ⟨rfl, h8.out.was.1⟩
end Go.Proofs.Ytnphpnbliigfbaa
