/- The walk of the law WalFull. No condition but the table of spaces. -/
import Derived.Test.YtofejnhnnmnfpaaDoorWVs
import Derived.Deep.LoopGhost
namespace Go.Proofs.YtofejnhnnmnfpaaDoor
set_option maxRecDepth 100000
open Go.RowKit
/-- The record, the log that has so many of it. -/
def rF (size : Nat) : Rc.Rec := rK 1 0 (List.replicate size 0)
def lF (s size ep k : Nat) : Lg := ⟨2, s, ep, List.replicate k (rF size), List.replicate k (Rc.enc (rF size)), 0⟩
theorem rF_ok {size : Nat} (h : size ≤ 255) : Rc.RecOk (rF size) := rK_ok (by omega) (by omega) (by simpa using h)
theorem rF_len (size : Nat) : (Rc.enc (rF size)).length = 32 + size := by rw [rF, rK_len, List.length_replicate]
theorem lcnt_F {size : Nat} (h : size ≤ 255) (k : Nat) : lcnt (List.replicate k (Rc.enc (rF size))) = (k * (34 + size) + 55) / 56 := by
  rw [lcnt_all (32 + size) (by omega) (by omega) _ (fun b hb => by rw [List.eq_of_mem_replicate hb]; exact rF_len size), List.length_replicate, show 2 + (32 + size) = 34 + size by omega]
theorem rep_snoc {α : Type} (x : α) (k : Nat) : List.replicate k x ++ [x] = List.replicate (k + 1) x := by rw [List.replicate_succ']
theorem on_F {s size : Nat} (hs : 1 ≤ s ∧ s ≤ 60) (hz : size ≤ 255) : ∀ (k N : Nat), N = k * (34 + size) → N ≤ 56 * s → On (Dq.dnew 100) (lF s size 1 k) [] Fr.st0
  | 0, _, _, _ => on_new 100 2 s 1 (by omega) (by omega) (by omega) (by omega)
  | k + 1, N, hN, hle => by
    have e : (k + 1) * (34 + size) = k * (34 + size) + (34 + size) := Nat.succ_mul _ _
    have ih := on_F hs hz k (k * (34 + size)) rfl (by omega)
    have hc := lcnt_F hz (k + 1)
    rw [e] at hc hN
    have := ih.app (rF_ok hz) (by show 0 + lcnt (List.replicate k _ ++ [_]) ≤ s; rw [rep_snoc, hc]; omega)
    unfold lF at this ⊢
    simp only at this
    rw [rep_snoc, rep_snoc] at this
    exact this
theorem app_F {s size k : Nat} (hz : size ≤ 255) (N : Nat) (hN : N = k * (34 + size)) (h : N + (34 + size) ≤ 56 * s) : lapp (lF s size 1 k) (rF size) = (lF s size 1 (k + 1), (k : Int) + 1, 0) := by
  have e : (k + 1) * (34 + size) = k * (34 + size) + (34 + size) := Nat.succ_mul _ _
  have hc := lcnt_F hz (k + 1)
  rw [e, ← hN] at hc
  rw [lapp_ok (rF_ok hz) (by show 0 + lcnt (List.replicate k _ ++ [_]) ≤ s; rw [rep_snoc, hc]; omega)]
  unfold lF
  simp only
  rw [rep_snoc, rep_snoc, List.length_replicate]
theorem full_F {s size k : Nat} (hz : size ≤ 255) (N : Nat) (hN : N = k * (34 + size)) (h : 56 * s < N + (34 + size)) : lapp (lF s size 1 k) (rF size) = (lF s size 1 k, 0, 7) := by
  have e : (k + 1) * (34 + size) = k * (34 + size) + (34 + size) := Nat.succ_mul _ _
  have hc := lcnt_F hz (k + 1)
  rw [e, ← hN] at hc
  exact lapp_full (rF_ok hz) (by show s < 0 + lcnt (List.replicate k _ ++ [_]); rw [rep_snoc, hc]; omega)
set_option maxHeartbeats 1600000 in
theorem walFull_walk (secs size : Int) (w : World) (hT : Rc.Tab w) (q0 : (Lit.int .i64 secs).wf = true) (q1 : (Lit.int .i64 size).wf = true) :
    Calls Tryd.prog 3 #[.int .i64 secs, .int .i64 size] w fun e w' => e = .returned (.bool true) ∧ Below w.heap.size w w' := by
  obtain ⟨iu, hiu, hz0, hz1, hz2⟩ := info_parts infoU8w
  by_cases t1 : secs < 1
  case pos =>
    go_enter Tryd.func3, Tryd.ntmps3
    go_wp2_with fail
    refine (alive_true w hT).mono ?_
    rintro e w1 ⟨rfl, b1⟩
    go_wp2
    go_ret
    exact ⟨rfl, b1⟩
  by_cases t2 : 60 < secs
  case pos =>
    go_enter Tryd.func3, Tryd.ntmps3
    go_wp2_with fail
    refine (alive_true w hT).mono ?_
    rintro e w1 ⟨rfl, b1⟩
    go_wp2
    go_ret
    exact ⟨rfl, b1⟩
  by_cases t3 : size < 0
  case pos =>
    go_enter Tryd.func3, Tryd.ntmps3
    go_wp2_with fail
    refine (alive_true w hT).mono ?_
    rintro e w1 ⟨rfl, b1⟩
    go_wp2
    go_ret
    exact ⟨rfl, b1⟩
  by_cases t4 : 255 < size
  case pos =>
    go_enter Tryd.func3, Tryd.ntmps3
    go_wp2_with fail
    refine (alive_true w hT).mono ?_
    rintro e w1 ⟨rfl, b1⟩
    go_wp2
    go_ret
    exact ⟨rfl, b1⟩
  obtain ⟨s, rfl⟩ := Int.eq_ofNat_of_zero_le (show 0 ≤ secs by omega)
  obtain ⟨z, rfl⟩ := Int.eq_ofNat_of_zero_le (show 0 ≤ size by omega)
  have hs : 1 ≤ s ∧ s ≤ 60 := by omega
  have hz : z ≤ 255 := by omega
  have hon := Lib.hid (on_F hs hz 0 0 (by simp) (by omega))
  go_enter Tryd.func3, Tryd.ntmps3
  go_wp2_with fail
  refine (alive_true w hT).mono ?_
  rintro e w1 ⟨rfl, b1⟩
  replace b1 := Lib.hid b1
  go_wp2_with fail
  refine (Dq.iNew (H := w.heap.size) (w0 := w) 100 (by omega) (by omega) b1.out b1.out.size).mono ?_
  rintro e w2 ⟨B, rfl, hD⟩
  have hT2 := hT.more hD.was.1
  replace hD := Lib.hid hD
  go_wp2_with fail
  refine (sOpen hT2 hD.out hon.out rfl (by show 0 < 1; omega)).mono ?_
  rintro e w3 ⟨G, rfl, hS, b3⟩
  replace hS := Lib.hid hS
  clear b3 hD b1 hT2 hon
  go_wp2_with (at_make; refine wpList_make_full _ rfl _ _ 29 rfl w3.heap.size 5 iu (.int .u8 0) 1 Tryd.underlying29 hiu hz0 hz1 _ _ _ _ z rfl rfl rfl rfl (by rw [hz2]; omega) (by unfold maxLen; omega) (Nat.le_refl _) ?_; intro w4 hown hgrow; have hb := zeros_madeW hown hgrow; have hcv := hb.2; have hbel := Lib.hid hb.1; clear hb hown hgrow)
  have hS4 := hS.out.more hbel.out
  obtain ⟨oR, hoR⟩ : ∃ oR, oR = Obj.cells #[.int .i64 1, .int .i64 0, .int .i64 0, .int .i64 0, .string (mk (List.replicate z 0)), .bool false, .string ⟨#[]⟩, .string ⟨#[]⟩, .int .i64 0, .int .i64 0, .slice none 0 0, .slice none 0 0, .slice none 0 0, .slice none 0 0] 37 (0, 0) := ⟨_, rfl⟩
  have hS5 : Sys (fun k => k = w4.heap.size) w.heap.size (w4.alloc oR) (w4.alloc oR) B (Dq.dnew 100) G (lF s z 1 0) := hS4.rebase ((Chg.refl _ _).alloc oR) (fun k e => ⟨.inr (by omega), by subst e; simp⟩)
  have hblk : (w4.alloc oR).heap[w4.heap.size]? = some oR := heap_alloc_new w4 _
  have bA : Below w.heap.size w (w4.alloc oR) := hS4.was.1.alloc hS4.was.2 oR
  rw [hoR] at hS5 hblk bA
  replace hS5 := Lib.hid hS5
  replace hblk := Lib.hid hblk
  replace bA := Lib.hid bA
  clear hS hS4 hbel hoR
  go_wp2
  go_loopg [9, 10] 300 (fun gg n k wr => ∃ j : Nat, gg + j = 300 ∧ n = .int .i64 (j : Int) ∧ k = .int .i64 (j : Int) ∧ Aside (j * (34 + z) ≤ 56 * s ∧ Sys (fun k => k = w4.heap.size) w.heap.size (w4.alloc (.cells #[.int .i64 1, .int .i64 0, .int .i64 0, .int .i64 0, .string (mk (List.replicate z 0)), .bool false, .string ⟨#[]⟩, .string ⟨#[]⟩, .int .i64 0, .int .i64 0, .slice none 0 0, .slice none 0 0, .slice none 0 0, .slice none 0 0] 37 (0, 0))) wr B (Dq.dnew 100) G (lF s z 1 j)))
  case atStart => exact ⟨0, rfl, rfl, rfl, by omega, hS5.out⟩
  case round =>
    obtain ⟨j, hgj, rfl, rfl, hA⟩ := hrel
    obtain ⟨hle, hSj⟩ := hA.out
    clear hA hS5
    have bj := bA.out.trans hSj.was.1
    have hTj := hT.more bj
    have hR := hSj.stay.heap hblk.out (fun e => e rfl)
    obtain ⟨⟨r0, r1, r2, r3, r4, r5, r6⟩, ⟨r7, r8, r9, r10, r11, r12, r13⟩, hl14⟩ := Rc.rec_cells hR
    obtain ⟨N, hN⟩ : ∃ N, N = j * (34 + z) := ⟨_, rfl⟩
    rw [← hN] at hle
    have hN34 : j * 34 ≤ N := by rw [hN]; exact Nat.mul_le_mul_left _ (by omega)
    have hj98 : j ≤ 98 := by omega
    have hon := on_F hs hz j N hN hle
    have hst := hon.stream_le
    have hj3 : (j : Int) < 300 := by omega
    by_cases hlt : N + (34 + z) ≤ 56 * s
    · have C := sAppend hSj hTj (rK_at 1 0 (List.replicate z 0) _) (by show (List.replicate j (rF z)).length ≤ 100000; rw [List.length_replicate]; omega) (by show s ≤ 4000; omega) (by show 0 ≤ 4000; omega) (by omega) (app_F hz N hN hlt)
      have hN2 : (j + 1) * (34 + z) ≤ 56 * s := by rw [Nat.succ_mul]; omega
      replace C := Lib.hid C
      replace hN := Lib.hid hN
      replace hN2 := Lib.hid hN2
      clear hSj hR hon bj hTj
      go_wp2_with fail
      refine C.out.mono ?_
      rintro e w5 ⟨rfl, hS6⟩
      replace hS6 := Lib.hid hS6
      clear C r0 r1 r2 r3 r4 r5 r6 r7 r8 r9 r10 r11 r12 r13 hl14
      go_wp2
      go_roundg (300 - (j + 1))
      case measure => omega
      case rel => exact ⟨j + 1, by omega, by go_num, by go_num, hN2.out, hS6.out⟩
    have C := sAppend hSj hTj (rK_at 1 0 (List.replicate z 0) _) (by show (List.replicate j (rF z)).length ≤ 100000; rw [List.length_replicate]; omega) (by show s ≤ 4000; omega) (by show 0 ≤ 4000; omega) (by omega) (full_F hz N hN (by omega))
    obtain ⟨cc, hcc⟩ : ∃ cc, cc = (N + 55) / 56 := ⟨_, rfl⟩
    have hlc : lcnt (lF s z 1 j).wait = cc := by
      show lcnt (List.replicate j _) = cc
      rw [lcnt_F hz j, hcc, hN]
    have hcs : cc ≤ s := by omega
    have hv : (s : Int) - cc = ((s : Int) - ((N : Int) + 56 - 1) / 56) := by rw [hcc]; omega
    obtain ⟨d', S', s', f1, on3, f3, f4⟩ := hon.flush_any rfl
    have e7 : (lF s z 1 j).end_ + lcnt (lF s z 1 j).wait = cc := by rw [hlc]; show 0 + cc = cc; omega
    rw [e7] at f1 on3
    have hl3 : s'.last ≤ 1 := on3.slast
    have on4 := on3.opened 2 (by omega) (by have : s'.epoch ≤ 1 := on3.sep; omega) (by omega) j (by show (List.replicate j _).length = j + 0; simp)
    have hlast : s'.last < 2 := by omega
    have eM : ((lF s z 1 j).l.take j).length = j := by show ((List.replicate j _).take j).length = j; simp
    have eQ : s * 56 / (34 + z) = j := by
      rw [Nat.mul_comm]
      have e2 : (j + 1) * (34 + z) = N + (34 + z) := by rw [Nat.succ_mul, ← hN]
      exact Nat.div_eq_of_lt_le (by rw [← hN]; exact hle) (by rw [e2]; omega)
    have hq1 : (s : Int) * 56 / (34 + (z : Int)) = (j : Int) := by
      have e : ((s * 56 / (34 + z) : Nat) : Int) = (s : Int) * 56 / (34 + (z : Int)) := by push_cast; rfl
      rw [← e, eQ]
    have hq2 : (j : Int) * (34 + (z : Int)) = (N : Int) := by rw [hN]; push_cast; rfl
    have hpd : (Dq.dnew 100).pend.length ≤ 900000 := Nat.zero_le _
    replace C := Lib.hid C
    replace hN := Lib.hid hN
    replace hcc := Lib.hid hcc
    replace hlc := Lib.hid hlc
    replace hv := Lib.hid hv
    replace f1 := Lib.hid f1
    replace on4 := Lib.hid on4
    replace eM := Lib.hid eM
    clear eQ
    replace hst := Lib.hid hst
    replace hlast := Lib.hid hlast
    clear hSj hR hon bj hTj on3 f3 f4 e7 hl3
    go_wp2_with fail
    refine C.out.mono ?_
    rintro e w5 ⟨rfl, hS6⟩
    clear C r0 r1 r2 r3 r4 r5 r6 r7 r8 r9 r10 r11 r12 r13 hl14
    have CL := sLeft hS6 (by show s ≤ 4000; omega) (by show 0 ≤ 4000; omega) (by have := hst.out; omega)
    rw [show ((lF s z 1 j).secs : Int) - ((lF s z 1 j).end_ : Int) - (lcnt (lF s z 1 j).wait : Int) = ((s : Int) - ((N : Int) + 56 - 1) / 56) by rw [hlc.out, ← hv.out]; show (s : Int) - ((0 : Nat) : Int) - _ = _; omega] at CL
    replace hS6 := Lib.hid hS6
    replace CL := Lib.hid CL
    go_wp2_with fail
    refine CL.out.mono ?_
    rintro e w7 ⟨rfl, b7⟩
    have hS7 := hS6.out.more b7
    have hT7 := hT.more (bA.out.trans hS7.was.1)
    have hR := hS7.stay.heap hblk.out (fun e => e rfl)
    obtain ⟨⟨r0, r1, r2, r3, r4, r5, r6⟩, ⟨r7, r8, r9, r10, r11, r12, r13⟩, hl14⟩ := Rc.rec_cells hR
    have C := sAppend hS7 hT7 (rK_at 1 0 (List.replicate z 0) _) (by show (List.replicate j (rF z)).length ≤ 100000; rw [List.length_replicate]; omega) (by show s ≤ 4000; omega) (by show 0 ≤ 4000; omega) (by have := hst.out; omega) (full_F hz N hN.out (by omega))
    replace C := Lib.hid C
    clear hS6 CL b7 hS7 hT7 hR
    go_wp2_with fail
    refine C.out.mono ?_
    rintro e w8 ⟨rfl, hS8⟩
    clear C r0 r1 r2 r3 r4 r5 r6 r7 r8 r9 r10 r11 r12 r13 hl14
    have C1 := sLast hS8
    rw [show (lF s z 1 j).l.length = j by show (List.replicate j _).length = j; simp] at C1
    have C2 := sFlush hS8 (by have := hst.out; omega) (by show 2 ≤ 100000; omega) (by show 0 ≤ 4000; omega) (by show 1 ≤ 4294967295; omega) hpd f1.out
    replace C1 := Lib.hid C1
    replace C2 := Lib.hid C2
    clear hS8 f1
    go_wp2_with fail
    refine C1.out.mono ?_
    rintro e w9 ⟨rfl, hz⟩
    obtain rfl := hz.symm
    clear hz C1
    go_wp2_with fail
    refine C2.out.mono ?_
    rintro e w10 ⟨rfl, hS10⟩
    clear C2
    have hT10 := hT.more (bA.out.trans hS10.was.1)
    have CO := sOpen hT10 hS10.din on4.out rfl hlast.out
    clear hS10 hT10
    replace CO := Lib.hid CO
    go_wp2_with fail
    refine CO.out.mono ?_
    rintro e w11 ⟨G2, rfl, hM, b11⟩
    have CM := sLast hM
    simp only at CM
    rw [eM.out] at CM
    have CN := sLeft hM (by show s ≤ 4000; omega) (by show cc ≤ 4000; omega) (by show (Fr.stream []).length ≤ 1000000; simp [Fr.stream])
    simp only at CN
    rw [show ((lF s z 1 j).secs : Int) - ((cc : Nat) : Int) - ((lcnt [] : Nat) : Int) = ((s : Int) - ((N : Int) + 56 - 1) / 56) by rw [← hv.out]; show (s : Int) - cc - ((0 : Nat) : Int) = _; omega] at CN
    have hfin := Lib.hid (bA.out.trans hM.was.1)
    replace CM := Lib.hid CM
    replace CN := Lib.hid CN
    clear CO b11 hM
    go_wp2_with fail
    refine CM.out.mono ?_
    rintro e w12 ⟨rfl, hz⟩
    obtain rfl := hz.symm
    clear hz CM
    go_wp2_with fail
    refine CN.out.mono ?_
    rintro e w12 ⟨rfl, b12⟩
    have hfin2 := Lib.hid (hfin.out.trans (b12.mono hfin.out.size))
    clear hfin b12 CN
    go_wp2
    go_ret
    exact ⟨rfl, hfin2.out⟩
end Go.Proofs.YtofejnhnnmnfpaaDoor
