/- PoolTwice's walk. No condition. -/
import Derived.Test.YtlbeaoglkhfdcaaOTwP
import Derived.Test.YtlbeaoglkhfdcaaOAlive
namespace Go.Proofs.Ytlbeaoglkhfdcaa
open Go.RowKit Go.Maps Go.WideShapes
theorem tw_1 (n : Int) (w : World) : Calls Try.prog 9 #[.int .i64 n] w fun e w' => e = .returned (.tuple #[.string ⟨#[112]⟩, .int .i64 0]) ∧ w = w' := by
  go_enter Try.func9, Try.ntmps9
  go_wp2
  go_ret2
  exact ⟨rfl, rfl⟩
theorem tw_2 (n : Int) (s : ByteArray) (w : World) : Calls Try.prog 10 #[.int .i64 n, .string s] w fun e w' => e = .returned (.int .i64 0) ∧ w = w' := by
  go_enter Try.func10, Try.ntmps10
  go_wp2
  go_ret
  exact ⟨rfl, rfl⟩
theorem tw_3 (n : Int) (w : World) : Calls Try.prog 11 #[.int .i64 n] w fun e w' => e = .returned (.int .i64 0) ∧ w = w' := by
  go_enter Try.func11, Try.ntmps11
  go_wp2
  go_ret
  exact ⟨rfl, rfl⟩
def twB : ByteArray := ⟨#[112]⟩
def twDev : Dev (dvSame twB) := devSame twB 9 10 11 (ent_any Try.func9 (by kernel_rfl) (by kernel_rfl)) (ent_any Try.func10 (by kernel_rfl) (by kernel_rfl)) (ent_any Try.func11 (by kernel_rfl) (by kernel_rfl)) tw_1 tw_2 tw_3
theorem tw_new (cap : Nat) (h1 : 1 ≤ cap) (h2 : cap ≤ 16) (w0 w : World) (hb : Below w0.heap.size w0 w) :
    Calls Try.prog 12 #[.int .i64 cap, .func (.func 9) #[] #[], .func (.func 10) #[] #[], .func (.func 11) #[] #[]] w fun e w' => ∃ pb, e = .returned (.pointer (some ⟨pb, 0, none⟩)) ∧ LP twDev (fun _ => False) w0.heap.size w0 w' pb cap () PS.new ∧ Below w.heap.size w w' :=
  lNew (E := twDev) (K := fun _ => False) (F := fun _ => False) h1 h2 (fun _ h => h) (fun _ h => h.elim) hb hb.size (fun _ h => h.elim)
theorem poolTwice_no (a0 a1 : Int) (w : World) (h : a0 < 2 ∨ 16 < a0 ∨ a1 < 1 ∨ 60 < a1) : Calls Try.prog 3 #[.int .i64 a0, .int .i64 a1] w fun e w' => e = .returned (.bool true) ∧ Below w.heap.size w w' := by
  have hal := Lib.hid (alive_true w)
  by_cases h1 : a0 < 2
  · clear h
    go_enter Try.func3, Try.ntmps3
    go_wp2_with fail
    refine hal.out.mono ?_
    rintro e w1 ⟨rfl, hb⟩
    replace hb := Lib.hid hb
    go_wp2
    go_ret
    exact ⟨rfl, hb.out⟩
  · by_cases h2 : 16 < a0
    · clear h
      go_enter Try.func3, Try.ntmps3
      go_wp2_with fail
      refine hal.out.mono ?_
      rintro e w1 ⟨rfl, hb⟩
      replace hb := Lib.hid hb
      go_wp2
      go_ret
      exact ⟨rfl, hb.out⟩
    · by_cases h3 : a1 < 1
      · clear h
        go_enter Try.func3, Try.ntmps3
        go_wp2_with fail
        refine hal.out.mono ?_
        rintro e w1 ⟨rfl, hb⟩
        replace hb := Lib.hid hb
        go_wp2
        go_ret
        exact ⟨rfl, hb.out⟩
      · have h4 : 60 < a1 := by omega
        clear h
        go_enter Try.func3, Try.ntmps3
        go_wp2_with fail
        refine hal.out.mono ?_
        rintro e w1 ⟨rfl, hb⟩
        replace hb := Lib.hid hb
        go_wp2
        go_ret
        exact ⟨rfl, hb.out⟩
set_option maxHeartbeats 1600000 in
theorem poolTwice_yes (cap n : Nat) (w : World) (h1 : 2 ≤ cap) (h2 : cap ≤ 16) (h3 : 1 ≤ n) (h4 : n ≤ 60) : Calls Try.prog 3 #[.int .i64 (cap : Int), .int .i64 (n : Int)] w fun e w' => e = .returned (.bool true) ∧ Below w.heap.size w w' := by
  obtain ⟨s1, s2, q1, q2, k1, l1, l2, hT⟩ := tw_start twB cap h1
  have hal := Lib.hid (alive_true w)
  have g1 : ¬ ((cap : Nat) : Int) < 2 := by omega
  have g2 : ¬ (16 : Int) < ((cap : Nat) : Int) := by omega
  have g3 : ¬ ((n : Nat) : Int) < 1 := by omega
  have g4 : ¬ (60 : Int) < ((n : Nat) : Int) := by omega
  replace hT := Lib.hid hT
  replace q1 := Lib.hid q1
  replace q2 := Lib.hid q2
  replace k1 := Lib.hid k1
  replace l1 := Lib.hid l1
  replace l2 := Lib.hid l2
  go_enter Try.func3, Try.ntmps3
  go_wp2_with fail
  refine hal.out.mono ?_
  rintro e w1 ⟨rfl, hb1⟩
  have c1 := tw_new cap (by omega) h2 w w1 hb1
  replace c1 := Lib.hid c1
  clear hb1
  go_wp2_with fail
  refine c1.out.mono ?_
  rintro e w2 ⟨pb, rfl, p2, _⟩
  have c2 := lGet 0 q1.out p2 (by decide) (by simp [PS.new]) (by simp [PS.new]) (by omega) (by show 3 ≤ 1000000; omega)
  replace c2 := Lib.hid c2
  clear p2 c1
  go_wp2_with fail
  refine c2.out.mono ?_
  rintro e w3 ⟨rfl, p3, _⟩
  have c3 := lGet 0 q2.out p3 (by decide) (by rw [k1.out]; omega) (by rw [l1.out]; simp) (by omega) (by show 3 ≤ 1000000; omega)
  replace c3 := Lib.hid c3
  clear p3 c2
  go_wp2_with fail
  refine c3.out.mono ?_
  rintro e w4 ⟨rfl, p4, _⟩
  replace p4 := Lib.hid p4
  clear c3
  go_wp2
  go_loopg [9] n (fun g i wr => ∃ (k : Nat) (lo : Int) (s : PS), g + k = n + 1 ∧ 1 ≤ k ∧ i = .int .i64 k ∧ Aside (TW cap k lo s ∧ s.ks.length ≤ cap ∧ LP twDev (fun _ => False) w.heap.size w wr pb cap () s))
  case atStart => exact ⟨1, 1, s2, rfl, Nat.le_refl _, rfl, hT.out, by rw [l2.out]; simp; omega, p4.out⟩
  case round =>
    obtain ⟨k, lo, s, hk, hk1, rfl, hI⟩ := hrel
    obtain ⟨i1, i2, i3⟩ := hI.out
    by_cases hlt : k ≤ n
    · obtain ⟨s', lo', hq, hT'⟩ := i1.step (b := twB) i3.ok.rise h1 i2 (by omega)
      have hlen' : s'.ks.length ≤ cap := by
        have := pget_len (D := dvSame twB) (t := ()) (cap := cap) k i3.ok.rise i2 (by omega)
        rw [hq] at this
        exact this
      have cG := lGet k hq i3 (by go_wf) (by rw [i1.ck]; omega) (by omega) (by omega) (by show 3 ≤ 1000000; omega)
      replace cG := Lib.hid cG
      replace hT' := Lib.hid hT'
      clear hI i1 i2 i3 hq
      go_wp2_with fail
      refine cG.out.mono ?_
      rintro e w5 ⟨rfl, p5, _⟩
      have cH := lHas p5
      replace cH := Lib.hid cH
      clear cG
      go_wp2_with fail
      refine cH.out.mono ?_
      rintro e w6 ⟨a6, c6, rfl, hA6, p6, _⟩
      obtain ⟨e0, e1, hh0, hh1⟩ := hT'.out.ends p6.ok.rise (by omega) (by have := hT'.out.len; have := hT'.out.full; omega)
      obtain ⟨b6, o6, rfl, d0⟩ := hA6 0 e0
      obtain ⟨b7, o7, e7, d1⟩ := hA6 (s'.ks.length - 1) e1
      cases e7
      rw [hh0, Nat.add_zero] at d0
      rw [hh1, show ((k : Int) + 1 - 1) = k by omega] at d1
      have hlen := hT'.out.len
      have hfull := hT'.out.full
      have hlo := hT'.out.lo1
      have hbl := World.block_lt_of_cell? w6 _ d0
      obtain ⟨m, hm⟩ : ∃ m : Nat, s'.ks.length = m + 1 := ⟨s'.ks.length - 1, by omega⟩
      rw [hm] at d1 hlen hfull hlen' ⊢
      rw [Nat.add_sub_cancel] at d1
      replace p6 := Lib.hid p6
      replace hm := Lib.hid hm
      clear hA6 hh0 hh1 p5 cH
      have hmin : min ((k : Int) + 1) (cap : Int) = (m : Int) + 1 := by omega
      go_wp2
      go_roundg (n - k)
      case rel => exact ⟨k + 1, lo', s', by omega, by omega, by go_num, by rw [show ((k + 1 : Nat) : Int) = (k : Int) + 1 by omega]; exact hT'.out, by rw [hm.out]; exact hlen', p6.out⟩
      case measure => omega
    · have hw := Lib.hid i3.was.1
      clear hI i1 i2 i3
      go_wp2
      go_ret
      exact ⟨rfl, hw.out⟩
theorem poolTwice_walk (a0 a1 : Int) (w : World) (_w0 : (Lit.int .i64 a0).wf = true) (_w1 : (Lit.int .i64 a1).wf = true) : Calls Try.prog 3 #[.int .i64 a0, .int .i64 a1] w fun e w' => e = .returned (.bool true) ∧ Below w.heap.size w w' := by
  by_cases h : a0 < 2 ∨ 16 < a0 ∨ a1 < 1 ∨ 60 < a1
  · exact poolTwice_no a0 a1 w h
  · obtain ⟨cap, rfl⟩ : ∃ c : Nat, a0 = c := ⟨a0.toNat, by omega⟩
    obtain ⟨n, rfl⟩ : ∃ c : Nat, a1 = c := ⟨a1.toNat, by omega⟩
    exact poolTwice_yes cap n w (by omega) (by omega) (by omega) (by omega)
end Go.Proofs.Ytlbeaoglkhfdcaa
