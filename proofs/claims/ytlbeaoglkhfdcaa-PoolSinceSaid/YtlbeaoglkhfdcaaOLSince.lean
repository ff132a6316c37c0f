/- PoolSince's walk. No condition. -/
import Derived.Test.YtlbeaoglkhfdcaaOSiP
import Derived.Test.YtlbeaoglkhfdcaaOAlive
import Derived.BigQuiet
import Derived.Deep.QuietTactic
namespace Go.Proofs.Ytlbeaoglkhfdcaa
open Go.RowKit Go.Maps Go.WideShapes
theorem si_1 (n : Int) (w : World) : Calls Try.prog 15 #[.int .i64 n] w fun e w' => e = .returned (.tuple #[.string ⟨#[]⟩, .int .i64 0]) ∧ w = w' := by
  go_enter Try.func15, Try.ntmps15
  go_wp2
  go_ret2
  exact ⟨rfl, rfl⟩
theorem si_2 (n : Int) (s : ByteArray) (w : World) : Calls Try.prog 16 #[.int .i64 n, .string s] w fun e w' => e = .returned (.int .i64 0) ∧ w = w' := by
  go_enter Try.func16, Try.ntmps16
  go_wp2
  go_ret
  exact ⟨rfl, rfl⟩
theorem si_3 (n : Int) (w : World) : Calls Try.prog 17 #[.int .i64 n] w fun e w' => e = .returned (.int .i64 0) ∧ w = w' := by
  go_enter Try.func17, Try.ntmps17
  go_wp2
  go_ret
  exact ⟨rfl, rfl⟩
def siDev : Dev (dvSame ⟨#[]⟩) := devSame ⟨#[]⟩ 15 16 17 (ent_any Try.func15 (by kernel_rfl) (by kernel_rfl)) (ent_any Try.func16 (by kernel_rfl) (by kernel_rfl)) (ent_any Try.func17 (by kernel_rfl) (by kernel_rfl)) si_1 si_2 si_3
theorem si_new (w0 w : World) (hb : Below w0.heap.size w0 w) :
    Calls Try.prog 12 #[.int .i64 4, .func (.func 15) #[] #[], .func (.func 16) #[] #[], .func (.func 17) #[] #[]] w fun e w' => ∃ pb, e = .returned (.pointer (some ⟨pb, 0, none⟩)) ∧ LP siDev (fun _ => False) w0.heap.size w0 w' pb 4 () PS.new ∧ Below w.heap.size w w' :=
  lNew (E := siDev) (K := fun _ => False) (F := fun _ => False) (cap := 4) (by omega) (by omega) (fun _ h => h) (fun _ h => h.elim) hb hb.size (fun _ h => h.elim)
theorem poolSince_no (v : Value) (l : List Int) (a1 : Int) (w : World) (hv : IsInts w v l) (h : l.length < 1 ∨ 30 < l.length) : Calls Try.prog 4 #[v, .int .i64 a1] w fun e w' => e = .returned (.bool true) ∧ Below w.heap.size w w' := by
  have hal := Lib.hid (alive_true w)
  obtain ⟨a, c, rfl, _, _⟩ := hv
  by_cases h1 : l.length < 1
  · have h1' : ((l.length : Nat) : Int) < 1 := by omega
    clear h h1
    go_enter Try.func4, Try.ntmps4
    go_wp2_with fail
    refine hal.out.mono ?_
    rintro e w1 ⟨rfl, hb⟩
    replace hb := Lib.hid hb
    go_wp2
    go_ret
    exact ⟨rfl, hb.out⟩
  · have h2 : (30 : Int) < ((l.length : Nat) : Int) := by omega
    have h1' : ¬ ((l.length : Nat) : Int) < 1 := by omega
    clear h h1
    go_enter Try.func4, Try.ntmps4
    go_wp2_with fail
    refine hal.out.mono ?_
    rintro e w1 ⟨rfl, hb⟩
    replace hb := Lib.hid hb
    go_wp2
    go_ret
    exact ⟨rfl, hb.out⟩
set_option maxHeartbeats 3200000 in
theorem poolSince_yes (a : Option Addr) (c : Nat) (l : List Int) (fl : Int) (w : World) (hfl : (Lit.int .i64 fl).wf = true) (hA : ∀ j (h : j < l.length), ∃ b o, a = some ⟨b, o, none⟩ ∧ w.cell? ⟨b, o + j, none⟩ = some (.int .i64 l[j]) ∧ (Lit.int .i64 l[j]).wf = true) (h1 : 1 ≤ l.length) (h2 : l.length ≤ 30) :
    Calls Try.prog 4 #[.slice a l.length c, .int .i64 fl] w fun e w' => e = .returned (.bool true) ∧ Below w.heap.size w w' := by
  have hal := Lib.hid (alive_true w)
  have g1 : ¬ ((l.length : Nat) : Int) < 1 := by omega
  have g2 : ¬ (30 : Int) < ((l.length : Nat) : Int) := by omega
  have hq1 := Int.lt_tmod_of_pos fl (show (0 : Int) < ((l.length : Nat) : Int) by omega)
  have hq2 := Int.tmod_lt_of_pos fl (show (0 : Int) < ((l.length : Nat) : Int) by omega)
  obtain ⟨q, hq⟩ : ∃ q, fl.tmod ((l.length : Nat) : Int) = q := ⟨_, rfl⟩
  rw [hq] at hq1 hq2
  obtain ⟨k, hk⟩ : ∃ k : Nat, (q + ((l.length : Nat) : Int)) % ((l.length : Nat) : Int) = (k : Int) := ⟨((q + ((l.length : Nat) : Int)) % ((l.length : Nat) : Int)).toNat, by rw [Int.toNat_of_nonneg (Int.emod_nonneg _ (by omega))]⟩
  have hk2 : (q + ((l.length : Nat) : Int)).tmod ((l.length : Nat) : Int) = (k : Int) := by rw [Int.tmod_eq_emod_of_nonneg (by omega), hk]
  have hk3 : k < l.length := by have := Int.emod_lt_of_pos (q + ((l.length : Nat) : Int)) (show (0 : Int) < ((l.length : Nat) : Int) by omega); omega
  clear hk
  replace hA := Lib.hid hA
  go_enter Try.func4, Try.ntmps4
  go_wp2_with fail
  refine hal.out.mono ?_
  rintro e w1 ⟨rfl, hb1⟩
  have c1 := si_new w w1 hb1
  replace c1 := Lib.hid c1
  clear hb1
  go_wp2_with fail
  refine c1.out.mono ?_
  rintro e w2 ⟨pb, rfl, p2, _⟩
  replace p2 := Lib.hid p2
  clear c1
  go_wp2
  go_loopg [44] l.length (fun g i wr => ∃ (j : Nat) (s : PS), g + j = l.length ∧ i = .int .i64 j ∧ Aside (SI l k j s ∧ LP siDev (fun _ => False) w.heap.size w wr pb 4 () s))
  case atStart => exact ⟨0, PS.new, rfl, rfl, si_start l k, p2.out⟩
  case round =>
    obtain ⟨i, s, hi, rfl, hI⟩ := hrel
    obtain ⟨i1, i2⟩ := hI.out
    by_cases hlt : i < l.length
    · obtain ⟨b3, o3, rfl, hc3, hw3⟩ := hA.out i hlt
      have hc4 := cell_more i2.was.1 hc3
      have hbl := World.block_lt_of_cell? wr _ hc4
      have hgd : l.getD i 0 = l[i] := by simp [List.getD, List.getElem?_eq_getElem hlt]
      have hks : s.ks.length ≤ 1 := by
        by_cases h0 : i = 0
        · rw [i1.zero h0]; simp
        · rw [(i1.pos (by omega)).1]; simp
      obtain ⟨x, hx⟩ : ∃ x, x = l[i] := ⟨_, rfl⟩
      rw [← hx] at hc4 hw3 hgd
      replace hx := Lib.hid hx
      clear hI hc3
      by_cases hik : i = k
      · subst hik
        obtain ⟨s1, s', q1, q2, q3, q4, q5, q6, hS⟩ := i1.flush (e := ⟨#[]⟩) (b := ⟨#[98]⟩)
        rw [hgd] at q6
        have cF := lFlush 3 q1 i2 (by decide) (by show 2 ≤ 1000000; omega)
        replace cF := Lib.hid cF
        replace hS := Lib.hid hS
        replace q1 := Lib.hid q1
        replace q2 := Lib.hid q2
        replace q3 := Lib.hid q3
        replace q6 := Lib.hid q6
        replace hgd := Lib.hid hgd
        clear i1 i2 p2
        go_wp2_with fail
        refine cF.out.mono ?_
        rintro e w5 ⟨rfl, p5, _⟩
        have cC := lClean 3 q2.out p5 (by decide)
        replace cC := Lib.hid cC
        clear cF
        go_wp2_with fail
        refine cC.out.mono ?_
        rintro e w6 ⟨rfl, rfl⟩
        have cD := lDirty q3.out p5
        replace cD := Lib.hid cD
        clear cC p5
        go_wp2_with fail
        refine cD.out.mono ?_
        rintro e w6 ⟨a6, c6, rfl, _, p6, hb6⟩
        have cS := lSet 3 ⟨#[98]⟩ x q6.out p6 (by decide) (by rw [q4]; omega) (by omega) (by omega) (by show 2 ≤ 1000000; omega)
        replace cS := Lib.hid cS
        replace hb6 := Lib.hid hb6
        clear cD p6
        go_wp2_with fail
        refine cS.out.mono ?_
        rintro e w7 ⟨rfl, p7, _⟩
        replace p7 := Lib.hid p7
        clear cS
        go_wp2
        go_roundg (l.length - (i + 1))
        case rel => exact ⟨i + 1, s', by omega, by go_num, hS.out, p7.out⟩
        case measure => omega
      · obtain ⟨s', q6, hS⟩ := i1.set (e := ⟨#[]⟩) (b := ⟨#[98]⟩) hik
        rw [hgd] at q6
        have hik2 : ((i : Int) == (k : Int)) = false := by rw [beq_eq_false_iff_ne]; omega
        have cS := lSet 3 ⟨#[98]⟩ x q6 i2 (by decide) (by rw [i1.ck]; omega) (by omega) (by omega) (by show 2 ≤ 1000000; omega)
        replace cS := Lib.hid cS
        replace hS := Lib.hid hS
        replace q6 := Lib.hid q6
        replace hgd := Lib.hid hgd
        clear i1 i2 p2 
        go_wp2_with fail
        refine cS.out.mono ?_
        rintro e w7 ⟨rfl, p7, _⟩
        replace p7 := Lib.hid p7
        clear cS
        go_wp2
        go_roundg (l.length - (i + 1))
        case rel => exact ⟨i + 1, s', by omega, by go_num, hS.out, p7.out⟩
        case measure => omega
    · obtain rfl : i = l.length := by omega
      obtain ⟨e1, e2⟩ := i1.end_ hk3
      have cD := lDirty e1 i2
      replace cD := Lib.hid cD
      replace e2 := Lib.hid e2
      clear hI i1 i2 p2 e1
      go_wp2_with fail
      refine cD.out.mono ?_
      rintro e w6 ⟨a6, c6, rfl, hd6, p6, hb6⟩
      obtain ⟨b6, o6, rfl, d1, d2⟩ := hd6 0 (by simp)
      simp only [Nat.zero_mul, Nat.add_zero, List.getElem_cons_zero] at d1 d2
      obtain ⟨b3, o3, rfl, hc3, hw3⟩ := hA.out k hk3
      have hc4 := cell_more p6.was.1 hc3
      have hgd : l.getD k 0 = l[k] := by simp [List.getD, List.getElem?_eq_getElem hk3]
      rw [hgd] at d2
      obtain ⟨x, hx⟩ : ∃ x, x = l[k] := ⟨_, rfl⟩
      rw [← hx] at hc4 d2
      have hbl := World.block_lt_of_cell? w6 _ hc4
      have hbl2 := World.block_lt_of_cell? w6 _ d1
      have hdn : ∀ n, LP siDev (fun _ => False) w.heap.size w (w6.drewN n) pb 4 () s := fun n => p6.kept (S := fun _ => False) ((Chg.refl _ w6).drewN n) (fun _ h => h.elim)
      have cC : ∀ n, Calls Try.prog 19 #[.pointer (some ⟨pb, 0, none⟩), .int .i64 3] (w6.drewN n) fun e w' => e = .returned (.bool false) ∧ ∃ m, w' = w6.drewN m := fun n => (lClean 3 e2.out (hdn n) (by decide)).mono fun e w' ⟨he, hw⟩ => ⟨he, n, hw.symm⟩
      have hw : ∀ n, Below w.heap.size w (w6.drewN n) := fun n => (hdn n).was.1
      replace hw := Lib.hid hw
      clear hdn
      replace cC := Lib.hid cC
      replace hx := Lib.hid hx
      replace hgd := Lib.hid hgd
      clear hd6 hb6 p6 hc3 hw3 cD
      go_wp2
      go_quiet (exact cC.out _)
      go_wp2
      go_ret
      exact ⟨rfl, hw.out _⟩
theorem poolSince_walk (v : Value) (l : List Int) (a1 : Int) (w : World) (hv : IsInts w v l) (w1 : (Lit.int .i64 a1).wf = true) : Calls Try.prog 4 #[v, .int .i64 a1] w fun e w' => e = .returned (.bool true) ∧ Below w.heap.size w w' := by
  by_cases h : l.length < 1 ∨ 30 < l.length
  · exact poolSince_no v l a1 w hv h
  · obtain ⟨a, c, rfl, _, hA⟩ := hv
    exact poolSince_yes a c l a1 w w1 hA (by omega) (by omega)
end Go.Proofs.Ytlbeaoglkhfdcaa
