/- The walk of the law WalTo. No condition but the table of spaces. -/
import Derived.Test.YtofejnhnnmnfpaaDoorWlW
import Derived.Deep.LoopGhost
namespace Go.Proofs.YtofejnhnnmnfpaaDoor
set_option maxRecDepth 100000
open Go.RowKit
theorem wf_i64 {n : Int} (h : (Lit.int .i64 n).wf = true) : -9223372036854775808 ≤ n ∧ n ≤ 9223372036854775807 := by
  simp [Lit.wf] at h
  have e : IntKind.i64.min = -9223372036854775808 := by decide
  have e2 : IntKind.i64.max = 9223372036854775807 := by decide
  omega
/-- So many records. -/
def rTo (k : Nat) : List Rc.Rec := (List.range k).map fun (i : Nat) => rK 6 ((i : Int) + 1) []
theorem rTo_len (k : Nat) : (rTo k).length = k := by simp [rTo]
theorem rTo_succ (k : Nat) : rTo (k + 1) = rTo k ++ [rK 6 ((k : Int) + 1) []] := by simp [rTo, List.range_succ]
theorem rTo_32 (k : Nat) : ∀ b ∈ (rTo k).map Rc.enc, b.length = 32 := by
  intro b hb
  simp only [rTo, List.map_map, List.mem_map, List.mem_range, Function.comp] at hb
  obtain ⟨i, _, rfl⟩ := hb
  rw [rK_len]
  rfl
theorem lcnt_to (k : Nat) : lcnt ((rTo k).map Rc.enc) = (k * 34 + 55) / 56 := by
  rw [lcnt_all 32 (by omega) (by omega) _ (rTo_32 k), List.length_map, rTo_len]
def lTo (k : Nat) : Lg := ⟨0, 250, 3, rTo k, (rTo k).map Rc.enc, 0⟩
theorem lTo_ok (k : Nat) : Rc.RecOk (rK 6 ((k : Int) + 1) []) ∨ 20 ≤ k := by
  by_cases h : k < 20
  · exact .inl (rK_ok (by omega) (by omega) (by simp))
  · exact .inr (by omega)
theorem on_to : ∀ (k : Nat), k ≤ 20 → On (Dq.dnew 300) (lTo k) [] Fr.st0
  | 0, _ => on_new 300 0 250 3 (by omega) (by omega) (by omega) (by omega)
  | k + 1, h => by
    have ih := on_to k (by omega)
    have hok : Rc.RecOk (rK 6 ((k : Int) + 1) []) := (lTo_ok k).resolve_right (by omega)
    have e : (rTo k).map Rc.enc ++ [Rc.enc (rK 6 ((k : Int) + 1) [])] = (rTo (k + 1)).map Rc.enc := by rw [rTo_succ, List.map_append]; rfl
    have := ih.app hok (by show 0 + lcnt ((rTo k).map Rc.enc ++ [_]) ≤ 250; rw [e, lcnt_to]; omega)
    unfold lTo at this ⊢
    simp only at this
    rw [e, ← rTo_succ] at this
    exact this
theorem app_to (k : Nat) (h : k < 20) : lapp (lTo k) (rK 6 ((k : Int) + 1) []) = (lTo (k + 1), (k : Int) + 1, 0) := by
  have hok : Rc.RecOk (rK 6 ((k : Int) + 1) []) := (lTo_ok k).resolve_right (by omega)
  have e : (rTo k).map Rc.enc ++ [Rc.enc (rK 6 ((k : Int) + 1) [])] = (rTo (k + 1)).map Rc.enc := by rw [rTo_succ, List.map_append]; rfl
  rw [lapp_ok hok (by show 0 + lcnt ((rTo k).map Rc.enc ++ [_]) ≤ 250; rw [e, lcnt_to]; omega)]
  unfold lTo
  simp only
  rw [e, ← rTo_succ, rTo_len]
set_option maxHeartbeats 1600000 in
theorem walTo_walk (n at_ : Int) (w : World) (hT : Rc.Tab w) (q0 : (Lit.int .i64 n).wf = true) (q1 : (Lit.int .i64 at_).wf = true) :
    Calls Tryd.prog 8 #[.int .i64 n, .int .i64 at_] w fun e w' => e = .returned (.bool true) ∧ Below w.heap.size w w' := by
  have r0 := wf_i64 q0
  have r1 := wf_i64 q1
  clear r0 r1 q0 q1
  by_cases t1 : n < 1
  · go_enter Tryd.func8, Tryd.ntmps8
    go_wp2_with fail
    refine (alive_true w hT).mono ?_
    rintro e w1 ⟨rfl, b1⟩
    go_wp2
    go_ret
    exact ⟨rfl, b1⟩
  by_cases t2 : 20 < n
  · go_enter Tryd.func8, Tryd.ntmps8
    go_wp2_with fail
    refine (alive_true w hT).mono ?_
    rintro e w1 ⟨rfl, b1⟩
    go_wp2
    go_ret
    exact ⟨rfl, b1⟩
  obtain ⟨m, rfl⟩ := Int.eq_ofNat_of_zero_le (show 0 ≤ n by omega)
  have hm : m ≤ 20 := by omega
  have hm1 : 1 ≤ m := by omega
  have hon := Lib.hid (on_to 0 (by omega))
  go_enter Tryd.func8, Tryd.ntmps8
  go_wp2_with fail
  refine (alive_true w hT).mono ?_
  rintro e w1 ⟨rfl, b1⟩
  replace b1 := Lib.hid b1
  go_wp2_with fail
  refine (Dq.iNew (H := w.heap.size) (w0 := w) 300 (by omega) (by omega) b1.out b1.out.size).mono ?_
  rintro e w2 ⟨B, rfl, hD⟩
  have hT2 := hT.more hD.was.1
  replace hD := Lib.hid hD
  go_wp2_with fail
  refine (sOpen hT2 hD.out hon.out rfl (by show 0 < 3; omega)).mono ?_
  rintro e w3 ⟨G, rfl, hS, b3⟩
  replace hS := Lib.hid hS
  clear b3 hD b1 hT2 hon
  go_wp2
  go_loopg [8] m (fun gg i wr => ∃ j : Nat, gg + j = m ∧ i = .int .i64 ((j : Int) + 1) ∧ Aside (Sys w.heap.size w wr B (Dq.dnew 300) G (lTo j)))
  case atStart => exact ⟨0, rfl, rfl, hS.out⟩
  case round =>
    obtain ⟨j, hgj, rfl, hA⟩ := hrel
    have hSj := hA.out
    clear hA hS
    have hTj := hT.more hSj.was.1
    by_cases hlt : j < m
    · have C := sAppend hSj hTj (rK_at 6 ((j : Int) + 1) [] wr) (by show (rTo j).length ≤ 100000; rw [rTo_len]; omega) (by show 250 ≤ 4000; omega) (by show 0 ≤ 4000; omega) (by have := (on_to j (by omega)).stream_le; omega) (app_to j (by omega))
      have hjm : (j : Int) + 1 ≤ m := by omega
      replace C := Lib.hid C
      clear hSj hTj
      go_wp2_with fail
      refine C.out.mono ?_
      rintro e w5 ⟨rfl, hS5⟩
      replace hS5 := Lib.hid hS5
      clear C
      go_wp2
      go_roundg (m - (j + 1))
      case measure => omega
      case rel => exact ⟨j + 1, by omega, by rw [show ((j : Int) + 1 + 1) = ((j + 1 : Nat) : Int) + 1 by omega], hS5.out⟩
    obtain rfl : j = m := by omega
    have hon := on_to j hm
    have hstl := hon.stream_le
    have hjm : ¬ ((j : Int) + 1 ≤ j) := by omega
    have hwl : (lTo j).wait.length = j := by show ((rTo j).map Rc.enc).length = j; rw [List.length_map, rTo_len]
    have hll : (lTo j).l.length = j := rTo_len j
    have hd0 : ((lTo j).l.length - (lTo j).wait.length : Nat) = 0 := by rw [hwl, hll]; omega
    by_cases hat : 0 < at_
    · obtain ⟨d', s', f1, on3, f3, f4⟩ := hon.flushed (fun e => by rw [e] at hwl; simp at hwl; omega) (.inl rfl)
      obtain ⟨c1, c2, c3, c4⟩ := dcrash_none on3.pend []
      have hpend : d'.pend.length = 0 := by rw [on3.pend]; rfl
      have hlast : s'.last < 4 := by have : s'.last ≤ 3 := on3.slast; omega
      have on4 := (on3.opened 4 hlast (by have : s'.epoch ≤ 3 := on3.sep; omega) (by omega) j (by show (rTo j).length = j + 0; rw [rTo_len]; rfl)).same c1 c2 c3
      have eM : ((lTo j).l.take j).length = j := by rw [List.length_take, hll]; omega
      obtain ⟨L7, hL7⟩ : ∃ L7 : Lg, L7 = { lTo j with wait := [], end_ := (lTo j).end_ + lcnt (lTo j).wait } := ⟨_, rfl⟩
      rw [← hL7] at f1
      have eL : L7.l.length = j := by rw [hL7]; exact hll
      have eW : L7.wait.length ≤ L7.l.length := by rw [hL7]; exact Nat.zero_le _
      have eD : (L7.l.length - L7.wait.length : Nat) = j := by rw [eL, hL7]; rfl
      have q : lto (lTo j) (Dq.dnew 300) at_ = (L7, d', 0) := by rw [lto, hd0, if_pos (by simpa using hat)]; exact f1
      have C := sTo at_ hSj (by omega) (by omega) (by omega) (by show 0 ≤ 100000; omega) (by show 0 ≤ 4000; omega) (by show 3 ≤ 4294967295; omega) (by show (Dq.dnew 300).pend.length ≤ 900000; exact Nat.zero_le _) q
      clear hSj hTj f1 on3 f3 f4 c1 c2 c3 c4 q hL7 hd0 hwl hll hon hstl
      replace C := Lib.hid C
      replace on4 := Lib.hid on4
      replace hpend := Lib.hid hpend
      replace eD := Lib.hid eD
      replace eL := Lib.hid eL
      replace eW := Lib.hid eW
      replace eM := Lib.hid eM
      replace hlast := Lib.hid hlast
      go_wp2_with fail
      refine C.out.mono ?_
      rintro e w7 ⟨rfl, hS7⟩
      clear C
      have CD := sDurable hS7 (by rw [eL.out]; omega) eW.out
      rw [eD.out] at CD
      replace hS7 := Lib.hid hS7
      replace CD := Lib.hid CD
      go_wp2_with fail
      refine CD.out.mono ?_
      rintro e w8 ⟨rfl, b8⟩
      have hS8 := hS7.out.more b8
      clear CD hS7 b8
      have CL := sLast hS8
      rw [eL.out] at CL
      have CP := sPending hS8
      rw [hpend.out] at CP
      have CC := sCrash none 0 [] (fun j hj => by simp at hj) (by simp) hS8
      clear hS8
      replace CL := Lib.hid CL
      replace CP := Lib.hid CP
      replace CC := Lib.hid CC
      go_wp2_with fail
      refine CL.out.mono ?_
      rintro e w9 ⟨rfl, hz⟩
      obtain rfl := hz.symm
      clear hz CL
      go_wp2_with fail
      refine CP.out.mono ?_
      rintro e w9 ⟨rfl, hz⟩
      obtain rfl := hz.symm
      clear hz CP
      go_wp2_with fail
      refine CC.out.mono ?_
      rintro e w10 ⟨rfl, hS10⟩
      clear CC
      have hT10 := hT.more hS10.was.1
      have CO := sOpen hT10 hS10.din on4.out rfl hlast.out
      clear hS10 hT10
      replace CO := Lib.hid CO
      go_wp2_with fail
      refine CO.out.mono ?_
      rintro e w11 ⟨G2, rfl, hM, b11⟩
      have CM := sLast hM
      simp only at CM
      rw [eM.out] at CM
      have hfin := Lib.hid hM.was.1
      replace CM := Lib.hid CM
      clear CO b11 hM
      go_wp2_with fail
      refine CM.out.mono ?_
      rintro e w12 ⟨rfl, hz⟩
      obtain rfl := hz.symm
      clear hz CM
      go_wp2
      go_ret
      exact ⟨rfl, hfin.out⟩
    · obtain ⟨c1, c2, c3, c4⟩ := dcrash_none hon.pend []
      have hpend : (Dq.dnew 300).pend.length = 0 := rfl
      have hlast : Fr.st0.last < 4 := by show 0 < 4; omega
      have on4 := (hon.opened 4 hlast (by show 0 ≤ 4; omega) (by omega) 0 (by rw [hwl, hll]; omega)).same c1 c2 c3
      have eM : ((lTo j).l.take 0).length = 0 := rfl
      have eL : (lTo j).l.length = j := hll
      have eW : (lTo j).wait.length ≤ (lTo j).l.length := by omega
      have eD := hd0
      have q : lto (lTo j) (Dq.dnew 300) at_ = (lTo j, Dq.dnew 300, 0) := by rw [lto, hd0, if_neg (by simpa using hat)]
      have C := sTo at_ hSj (by omega) (by omega) (by omega) (by show 0 ≤ 100000; omega) (by show 0 ≤ 4000; omega) (by show 3 ≤ 4294967295; omega) (by show (Dq.dnew 300).pend.length ≤ 900000; exact Nat.zero_le _) q
      clear hSj hTj c1 c2 c3 c4 q hwl hll hon hstl hd0
      replace C := Lib.hid C
      replace on4 := Lib.hid on4
      replace hpend := Lib.hid hpend
      replace eD := Lib.hid eD
      replace eL := Lib.hid eL
      replace eW := Lib.hid eW
      replace eM := Lib.hid eM
      replace hlast := Lib.hid hlast
      go_wp2_with fail
      refine C.out.mono ?_
      rintro e w7 ⟨rfl, hS7⟩
      clear C
      have CD := sDurable hS7 (by rw [eL.out]; omega) eW.out
      rw [eD.out] at CD
      replace hS7 := Lib.hid hS7
      replace CD := Lib.hid CD
      go_wp2_with fail
      refine CD.out.mono ?_
      rintro e w8 ⟨rfl, b8⟩
      have hS8 := hS7.out.more b8
      clear CD hS7 b8
      have CL := sLast hS8
      rw [eL.out] at CL
      have CP := sPending hS8
      rw [hpend.out] at CP
      have CC := sCrash none 0 [] (fun j hj => by simp at hj) (by simp) hS8
      clear hS8
      replace CL := Lib.hid CL
      replace CP := Lib.hid CP
      replace CC := Lib.hid CC
      go_wp2_with fail
      refine CL.out.mono ?_
      rintro e w9 ⟨rfl, hz⟩
      obtain rfl := hz.symm
      clear hz CL
      go_wp2_with fail
      refine CP.out.mono ?_
      rintro e w9 ⟨rfl, hz⟩
      obtain rfl := hz.symm
      clear hz CP
      go_wp2_with fail
      refine CC.out.mono ?_
      rintro e w10 ⟨rfl, hS10⟩
      clear CC
      have hT10 := hT.more hS10.was.1
      have CO := sOpen hT10 hS10.din on4.out rfl hlast.out
      clear hS10 hT10
      replace CO := Lib.hid CO
      go_wp2_with fail
      refine CO.out.mono ?_
      rintro e w11 ⟨G2, rfl, hM, b11⟩
      have CM := sLast hM
      simp only at CM
      rw [eM.out] at CM
      have hfin := Lib.hid hM.was.1
      replace CM := Lib.hid CM
      clear CO b11 hM
      go_wp2_with fail
      refine CM.out.mono ?_
      rintro e w12 ⟨rfl, hz⟩
      obtain rfl := hz.symm
      clear hz CM
      go_wp2
      go_ret
      exact ⟨rfl, hfin.out⟩
end Go.Proofs.YtofejnhnnmnfpaaDoor
