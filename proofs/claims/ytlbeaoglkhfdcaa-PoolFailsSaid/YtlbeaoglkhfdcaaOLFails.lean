/- PoolFails's walk. No condition. -/
import Derived.Test.YtlbeaoglkhfdcaaOAlive
namespace Go.Proofs.Ytlbeaoglkhfdcaa
open Go.RowKit Go.Maps Go.WideShapes
def dvFa : Dv Bool := ⟨fun t _ => (t, ⟨#[]⟩, 12), fun t _ _ => (t, if t = true then 10 else 0), fun t _ => (t, 0)⟩
theorem fa_1 (n : Int) (w : World) : Calls Try.prog 29 #[.int .i64 n] w fun e w' => e = .returned (.tuple #[.string ⟨#[]⟩, .int .i64 12]) ∧ w = w' := by
  go_enter Try.func29, Try.ntmps29
  go_wp2
  go_ret2
  exact ⟨rfl, rfl⟩
theorem fa_2 (n : Int) (s : ByteArray) (xb : Nat) (t : Bool) (w : World) (h : w.cell? ⟨xb, 0, none⟩ = some (.bool t)) : Calls Try.prog 30 #[.int .i64 n, .string s, .pointer (some ⟨xb, 0, none⟩)] w fun e w' => e = .returned (.int .i64 (if t = true then 10 else 0)) ∧ w = w' := by
  cases t with
  | true =>
    go_enter Try.func30, Try.ntmps30
    go_wp2
    go_ret
    exact ⟨rfl, rfl⟩
  | false =>
    go_enter Try.func30, Try.ntmps30
    go_wp2
    go_ret
    exact ⟨rfl, rfl⟩
theorem fa_3 (n : Int) (w : World) : Calls Try.prog 31 #[.int .i64 n] w fun e w' => e = .returned (.int .i64 0) ∧ w = w' := by
  go_enter Try.func31, Try.ntmps31
  go_wp2
  go_ret
  exact ⟨rfl, rfl⟩
def faDev (xb : Nat) : Dev dvFa where
  I := fun F w t => (∀ k, F k ↔ k = xb) ∧ w.heap[xb]? = some (.cells #[.bool t] 4 (0, 0))
  kept := fun ⟨h1, h2⟩ hc hS => ⟨h1, hc.heap h2 (hS _ ((h1 _).2 rfl))⟩
  lt := fun ⟨h1, h2⟩ k hk => by rw [(h1 k).1 hk]; exact lt_of h2
  left := fun _ => 1000000
  leftR := fun _ _ => by omega
  leftW := fun _ _ _ => by omega
  leftL := fun _ _ => by omega
  fR := 29
  fW := 30
  fL := 31
  pR := #[]
  cR := #[]
  pW := #[]
  cW := #[.pointer (some ⟨xb, 0, none⟩)]
  pL := #[]
  cL := #[]
  entR := ent_any Try.func29 (by kernel_rfl) (by kernel_rfl)
  entW := ent_any Try.func30 (by kernel_rfl) (by kernel_rfl)
  entL := ent_any Try.func31 (by kernel_rfl) (by kernel_rfl)
  callR := fun {F w t} n h _ _ => (fa_1 n w).mono fun e w' ⟨he, hw⟩ => by subst hw; exact ⟨he, F, h, Stp.refl _ _⟩
  callW := fun {F w t} n s h _ _ => (fa_2 n s xb t w (cell_of h.2 rfl)).mono fun e w' ⟨he, hw⟩ => by subst hw; exact ⟨he, F, h, Stp.refl _ _⟩
  callL := fun {F w t} n h _ => (fa_3 n w).mono fun e w' ⟨he, hw⟩ => by subst hw; exact ⟨he, F, h, Stp.refl _ _⟩
theorem LP.bad {xb : Nat} {K : Nat → Prop} {B : Nat} {w0 w : World} {pb cap : Nat} {t : Bool} {s : PS} (h : LP (faDev xb) K B w0 w pb cap t s) :
    w.cell? ⟨xb, 0, none⟩ = some (.bool t) ∧ w.frozen? ⟨xb, 0, none⟩ = false ∧ xb < w.heap.size ∧ ∀ t', LP (faDev xb) K B w0 (w.setCell ⟨xb, 0, none⟩ (.bool t')) pb cap t' s := by
  obtain ⟨G, ⟨F, mb, bk, hA, hI, hG, hl⟩, h2, h3, h4, h5⟩ := h
  obtain ⟨i1, i2⟩ := hI
  have hF : F xb := (i1 xb).2 rfl
  have hGx : G xb := hG xb (.inr (.inr (.inr hF)))
  refine ⟨cell_of i2 rfl, free_of i2, lt_of i2, fun t' => ?_⟩
  have hc : Chg (fun k => k = xb) w (w.setCell ⟨xb, 0, none⟩ (.bool t')) := (Chg.refl (fun k => k = xb) w).setCell (a := ⟨xb, 0, none⟩) (fun _ => rfl) _
  refine ⟨G, ⟨F, mb, bk, hA.kept hc (fun e => hA.apart.1 (e ▸ hF)) (fun e => hA.apart.2.1 (e ▸ hF)) (fun x hx e => hA.apart.2.2 x hx (e ▸ hF)), ⟨i1, ?_⟩, hG, fun k hk => by simpa using hl k hk⟩, h2, h3.trans (hc.below (fun k _ e => by rw [e]; exact (h2 xb hGx).1) h4), by simpa using h4, fun k hk => by simpa using h5 k hk⟩
  have := heap_set (i := 0) i2 (.bool t')
  simpa using this
/-! ### what is answered -/
theorem fa_get (n : Int) : pget dvFa 1 true PS.new n = (true, PS.new, ⟨#[]⟩, 12) := by
  unfold pget
  rw [if_neg (by simp [PS.new]), if_pos (by simp [dvFa])]
  rfl
def faS1 (n : Int) (b : ByteArray) : PS := (PS.new.add n ⟨ByteArray.empty, false, 0, 0, 0, 0⟩).set n b 1
theorem fa_ks (n : Int) (b : ByteArray) : (faS1 n b).ks = [n] ∧ ((faS1 n b).fr n).d = true ∧ ((faS1 n b).fr n).b = b ∧ (faS1 n b).ck = 1 := by
  refine ⟨rfl, ?_, ?_, rfl⟩
  · simp [faS1, PS.set, PS.add, PS.acc, PS.upd, Fr.set]
  · simp [faS1, PS.set, PS.add, PS.acc, PS.upd, Fr.set]
theorem fa_set (n : Int) (b : ByteArray) : pset dvFa 1 true PS.new n b 1 = (true, faS1 n b, 0) := by
  unfold pset proom
  rw [if_neg (by simp [PS.new])]
  simp [PS.new, faS1]
theorem fa_one {s : PS} {n : Int} (h : s.ks = [n]) : s.vic = n := by
  unfold PS.vic vicOf
  rw [h]
  simp
theorem fa_flush {s : PS} {n : Int} (h : s.ks = [n]) (hd : (s.fr n).d = true) : pflush dvFa true s n = (true, s, 10) := by
  unfold pflush
  rw [if_pos ⟨by rw [h]; simp, hd⟩]
  simp [dvFa]
theorem fa_set2 {s : PS} {n m : Int} {b : ByteArray} (h : s.ks = [n]) (hd : (s.fr n).d = true) (hne : m ≠ n) : pset dvFa 1 true s m b 2 = (true, s, 10) := by
  unfold pset proom
  rw [if_neg (by rw [h]; simpa using hne), fa_one h, fa_flush h hd]
  simp [h]
theorem fa_all {s : PS} {n : Int} (h : s.ks = [n]) (hd : (s.fr n).d = true) : pall dvFa true s = (true, s, 10) := by
  unfold pall
  rw [h]
  simp [pallOf, fa_flush h hd]
theorem fa_get2 {s : PS} {n : Int} (h : s.ks = [n]) : pget dvFa 1 true s n = (true, s.acc n, (s.fr n).b, 0) := by
  unfold pget
  rw [if_pos (by rw [h]; simp)]
theorem fa_acc {s : PS} {n : Int} (hd : (s.fr n).d = true) : ((s.acc n).fr n).d = true := by
  simp [PS.acc, PS.upd, hd]
def faS3 (s : PS) (n : Int) : PS := s.upd n { s.fr n with d := false }
theorem fa_flush3 {s : PS} {n : Int} (h : s.ks = [n]) (hd : (s.fr n).d = true) : pflush dvFa false s n = (false, faS3 s n, 0) := by
  unfold pflush
  rw [if_pos ⟨by rw [h]; simp, hd⟩]
  simp [dvFa, faS3]
theorem fa_all3 {s : PS} {n : Int} (h : s.ks = [n]) (hd : (s.fr n).d = true) : pall dvFa false s = (false, faS3 s n, 0) := by
  unfold pall
  rw [h]
  simp [pallOf, fa_flush3 h hd]
theorem fa_clean {s : PS} {n : Int} (h : s.ks = [n]) (hd : (s.fr n).d = true) : pclean s n = false := by simp [pclean, h, hd]
theorem fa_clean3 (s : PS) (n : Int) : pclean (faS3 s n) n = true := by simp [pclean, faS3, PS.upd]
theorem fa_set3 {s : PS} {n m : Int} {b : ByteArray} (h : s.ks = [n]) (hne : m ≠ n) : ∃ s', pset dvFa 1 false (faS3 s n) m b 2 = (false, s', 0) := by
  have h3 : (faS3 s n).ks = [n] := h
  have hf : pflush dvFa false (faS3 s n) n = (false, faS3 s n, 0) := by
    unfold pflush
    rw [if_neg (by simp [faS3, PS.upd])]
  refine ⟨(((faS3 s n).del n).add m ⟨ByteArray.empty, false, 0, 0, 0, 0⟩).set m b 2, ?_⟩
  unfold pset proom
  rw [if_neg (by rw [h3]; simpa using hne), fa_one h3, hf]
  simp [h3]
theorem poolFails_no (n : Int) (b : ByteArray) (w : World) (h : 60 < b.size) : Calls Try.prog 7 #[.int .i64 n, .string b] w fun e w' => e = .returned (.bool true) ∧ Below w.heap.size w w' := by
  have hal := Lib.hid (alive_true w)
  have h1 : (60 : Int) < ((b.size : Nat) : Int) := by omega
  clear h
  go_enter Try.func7, Try.ntmps7
  go_wp2_with fail
  refine hal.out.mono ?_
  rintro e w1 ⟨rfl, hb⟩
  replace hb := Lib.hid hb
  go_wp2
  go_ret
  exact ⟨rfl, hb.out⟩
theorem fa_new (w0 w : World) (hb : Below w0.heap.size w0 w) :
    Calls Try.prog 12 #[.int .i64 1, .func (.func 29) #[] #[], .func (.func 30) #[] #[.pointer (some ⟨w.heap.size, 0, none⟩)], .func (.func 31) #[] #[]] (w.alloc (.cells #[.bool true] 4)) fun e w' => ∃ pb, e = .returned (.pointer (some ⟨pb, 0, none⟩)) ∧ LP (faDev w.heap.size) (fun _ => False) w0.heap.size w0 w' pb 1 true PS.new := by
  have hI : (faDev w.heap.size).I (fun k => k = w.heap.size) (w.alloc (.cells #[.bool true] 4)) true := by
    refine ⟨fun k => Iff.rfl, ?_⟩
    exact heap_alloc_new w (.cells #[.bool true] 4)
  have hb2 : Below w0.heap.size w0 (w.alloc (.cells #[.bool true] 4)) :=
    hb.alloc hb.size _
  refine (lNew (E := faDev w.heap.size) (K := fun _ => False) (B := w0.heap.size) (w0 := w0) (cap := 1) (by omega) (by omega) hI (fun k hk => ⟨by rw [hk]; exact hb.size, id⟩) hb2 hb2.size (fun _ h => h.elim)).mono ?_
  rintro e w' ⟨pb, rfl, hP, _⟩
  exact ⟨pb, rfl, hP⟩
set_option maxHeartbeats 3200000 in
theorem poolFails_yes (n : Int) (b : ByteArray) (w : World) (hn : (Lit.int .i64 n).wf = true) (h : b.size ≤ 60) : Calls Try.prog 7 #[.int .i64 n, .string b] w fun e w' => e = .returned (.bool true) ∧ Below w.heap.size w w' := by
  have hal := Lib.hid (alive_true w)
  have h1 : ¬ (60 : Int) < ((b.size : Nat) : Int) := by omega
  obtain ⟨k1, k2, k3, k4⟩ := fa_ks n b
  have q2 := fa_set n b
  have f3 := fa_flush k1 k2
  have f4 := fa_clean k1 k2
  have f6 := fa_all k1 k2
  have f7 := fa_get2 k1
  rw [k3] at f7
  generalize faS1 n b = s1 at *
  have k5 : (s1.acc n).ks = [n] := k1
  have k6 := fa_acc k2
  have k7 : (s1.acc n).ck = 2 := by show s1.ck + 1 = 2; rw [k4]; rfl
  replace k2 := Lib.hid k2
  go_enter Try.func7, Try.ntmps7
  go_wp2_with fail
  refine hal.out.mono ?_
  rintro e w1 ⟨rfl, hb1⟩
  have c1 := fa_new w w1 hb1
  replace c1 := Lib.hid c1
  replace hb1 := Lib.hid hb1
  go_wp2_with fail
  refine c1.out.mono ?_
  rintro e w2 ⟨pb, rfl, p2⟩
  have c2 := lGet n (fa_get n) p2 hn (by simp [PS.new]) (by simp [PS.new]) (by omega) (by show 3 ≤ 1000000; omega)
  replace c2 := Lib.hid c2
  clear c1 p2
  go_wp2_with fail
  refine c2.out.mono ?_
  rintro e w3 ⟨rfl, p3, _⟩
  have c3 := lHas p3
  replace c3 := Lib.hid c3
  clear c2 p3
  go_wp2_with fail
  refine c3.out.mono ?_
  rintro e w4 ⟨a4, n4, rfl, _, p4, _⟩
  have c4 := lSet n b 1 q2 p4 hn (by simp [PS.new]) (by simp [PS.new]) (by omega) (by show 2 ≤ 1000000; omega)
  have hnl : PS.new.ks.length = 0 := rfl
  rw [hnl]
  replace c4 := Lib.hid c4
  clear c3 p4 q2 hnl
  by_cases hmx : n = 9223372036854775807
  · have hmx2 : (n == 9223372036854775807) = true := by rw [beq_iff_eq]; exact hmx
    replace hmx := Lib.hid hmx
    go_wp2_with fail
    refine c4.out.mono ?_
    rintro e w5 ⟨rfl, p5, _⟩
    have hw := Lib.hid p5.was.1
    clear c4 p5
    go_wp2
    go_ret
    exact ⟨rfl, hw.out⟩
  have hmx2 : (n == 9223372036854775807) = false := by rw [beq_eq_false_iff_ne]; exact hmx
  have hnb : -9223372036854775808 ≤ n ∧ n ≤ 9223372036854775807 := by
    unfold Lit.wf at hn
    rw [Bool.and_eq_true, decide_eq_true_eq, decide_eq_true_eq] at hn
    exact hn
  have hne : n + 1 ≠ n := by omega
  have hn1 : (Lit.int .i64 (n + 1)).wf = true := by go_wf
  have q7 := fa_set2 (b := ⟨#[110, 111]⟩) k1 k2.out hne
  go_wp2_with fail
  refine c4.out.mono ?_
  rintro e w5 ⟨rfl, p5, _⟩
  have c5 := lFlush n f3 p5 hn (by show 2 ≤ 1000000; omega)
  replace c5 := Lib.hid c5
  clear c4 p5
  go_wp2_with fail
  refine c5.out.mono ?_
  rintro e w6 ⟨rfl, p6, _⟩
  have c6 := lClean n f4 p6 hn
  replace c6 := Lib.hid c6
  clear c5
  go_wp2_with fail
  refine c6.out.mono ?_
  rintro e w7 ⟨rfl, rfl⟩
  have c7 := lSet (n + 1) ⟨#[110, 111]⟩ 2 q7 p6 hn1 (by rw [k4]; omega) (by rw [k1]; simp) (by omega) (by show 2 ≤ 1000000; omega)
  replace c7 := Lib.hid c7
  clear c6 p6
  go_wp2_with fail
  refine c7.out.mono ?_
  rintro e w8 ⟨rfl, p8, _⟩
  have c8 := lAll f6 p8 (by rw [k1]; show 2 ≤ 1000000; omega)
  replace c8 := Lib.hid c8
  clear c7 p8
  go_wp2_with fail
  refine c8.out.mono ?_
  rintro e w9 ⟨rfl, p9, _⟩
  have c9 := lGet n f7 p9 hn (by rw [k4]; omega) (by rw [k1]; simp) (by omega) (by show 3 ≤ 1000000; omega)
  replace c9 := Lib.hid c9
  clear c8 p9
  go_wp2_with fail
  refine c9.out.mono ?_
  rintro e w10 ⟨rfl, p10, _⟩
  obtain ⟨x1, x2, x3, x4⟩ := p10.bad
  have p11 := x4 false
  have f12 := fa_all3 k5 k6
  have f13 := fa_clean3 (s1.acc n) n
  obtain ⟨s14, f14⟩ := fa_set3 (b := ⟨#[121, 101, 115]⟩) k5 hne
  have k11 : (faS3 (s1.acc n) n).ks = [n] := k5
  have k12 : (faS3 (s1.acc n) n).ck = 2 := k7
  generalize faS3 (s1.acc n) n = s3 at *
  replace p11 := Lib.hid p11
  clear x4 c9 p10
  have c11 := lHas p11.out
  rw [k5] at c11
  replace c11 := Lib.hid c11
  clear p11
  go_wp2_with fail
  refine c11.out.mono ?_
  rintro e w11 ⟨a11, n11, rfl, _, p12, _⟩
  have c12 := lAll f12 p12 (by rw [k5]; show 2 ≤ 1000000; omega)
  replace c12 := Lib.hid c12
  clear c11 p12
  go_wp2_with fail
  refine c12.out.mono ?_
  rintro e w12 ⟨rfl, p13, _⟩
  have c13 := lClean n f13 p13 hn
  replace c13 := Lib.hid c13
  clear c12
  go_wp2_with fail
  refine c13.out.mono ?_
  rintro e w13 ⟨rfl, rfl⟩
  have c14 := lSet (n + 1) ⟨#[121, 101, 115]⟩ 2 f14 p13 hn1 (by rw [k12]; omega) (by rw [k11]; simp) (by omega) (by show 2 ≤ 1000000; omega)
  replace c14 := Lib.hid c14
  clear c13 p13
  go_wp2_with fail
  refine c14.out.mono ?_
  rintro e w14 ⟨rfl, p14, _⟩
  have hw := Lib.hid p14.was.1
  clear c14 p14
  go_wp2
  go_ret
  exact ⟨rfl, hw.out⟩
theorem poolFails_walk (n : Int) (b : ByteArray) (w : World) (hn : (Lit.int .i64 n).wf = true) (_hb : b.size ≤ 140737488351232) : Calls Try.prog 7 #[.int .i64 n, .string b] w fun e w' => e = .returned (.bool true) ∧ Below w.heap.size w w' := by
  by_cases h : 60 < b.size
  · exact poolFails_no n b w h
  · exact poolFails_yes n b w hn (by omega)
end Go.Proofs.Ytlbeaoglkhfdcaa
