/- Get of package record. No condition but the table of spaces. -/
import Derived.Test.YtofejnhnnmnfpaaDoorRecK
import Derived.Deep.CutBlock
import Derived.Deep.DeepCutAuto
namespace Go.Proofs.YtofejnhnnmnfpaaDoor.Rc
set_option maxRecDepth 100000
open Go.RowKit
attribute [local go_sem] run_store_func
set_option maxRecDepth 100000 in
set_option maxHeartbeats 40000000 in
theorem recget_any (b : List UInt8) (w : World) (hT : Tab w) : Calls Tryd.prog 31 #[.string (mk b)] w (GetPost b w) := by
  have hmf : ∀ (fn : Fn) (first cap : Array Value) (w : World), (Instr.makeFunc fn first cap).run Tryd.prog w = .ok (.func fn first cap) w := fun _ _ _ _ => rfl
  have cF := fun x => rFrom b x
  replace cF := Lib.hid cF
  have h0 := gs_start b w
  replace h0 := Lib.hid h0
  go_enter Tryd.func31, Tryd.ntmps31
  go_wp2_with fail
  refine (cF.out _).mono ?_
  rintro e w1 ⟨rfl, rfl⟩
  go_wp2_with fail
  go_region
  have g0 := h0.out
  have c1 := g_num g0.rd
  obtain ⟨⟨k1, s1⟩, e1⟩ : ∃ q, q = q2 (b, false) := ⟨_, rfl⟩
  rw [← e1] at c1
  simp only at c1
  replace c1 := Lib.hid c1
  replace e1 := Lib.hid e1
  replace g0 := Lib.hid g0
  go_wp2_with fail
  refine c1.out.mono ?_
  rintro e v1 ⟨rfl, r1, z1⟩
  have y1 := g0.out.call (s' := s1) r1 z1
  obtain ⟨nm1, nl1⟩ := y1.num
  obtain ⟨xc1, xf1⟩ := y1.cell 0 rfl
  have g1 := y1.set 0 (.int .i64 (k1 : Int)) (cs' := #[.int .i64 (k1 : Int), .int .i64 0, .int .i64 0, .int .i64 0, .string ⟨#[]⟩, .bool false, .string ⟨#[]⟩, .string ⟨#[]⟩, .int .i64 0, .int .i64 0, .slice none 0 0, .slice none 0 0, .slice none 0 0, .slice none 0 0]) rfl
  clear c1 r1 z1 y1 g0
  as_aux_lemma =>
  have c2 := g_num g1.rd
  obtain ⟨⟨k2, s2⟩, e2⟩ : ∃ q, q = q2 s1 := ⟨_, rfl⟩
  rw [← e2] at c2
  simp only at c2
  replace c2 := Lib.hid c2
  replace e2 := Lib.hid e2
  replace g1 := Lib.hid g1
  go_wp2_with fail
  refine c2.out.mono ?_
  rintro e v2 ⟨rfl, r2, z2⟩
  have y2 := g1.out.call (s' := s2) r2 z2
  obtain ⟨nm2, nl2⟩ := y2.num
  obtain ⟨xc2, xf2⟩ := y2.cell 1 rfl
  clear nm1 nl1 xc1 xf1
  have g2 := y2.set 1 (.int .i64 (k2 : Int)) (cs' := #[.int .i64 (k1 : Int), .int .i64 (k2 : Int), .int .i64 0, .int .i64 0, .string ⟨#[]⟩, .bool false, .string ⟨#[]⟩, .string ⟨#[]⟩, .int .i64 0, .int .i64 0, .slice none 0 0, .slice none 0 0, .slice none 0 0, .slice none 0 0]) rfl
  clear c2 r2 z2 y2 g1
  as_aux_lemma =>
  have c3 := g_long g2.rd
  obtain ⟨⟨k3, s3⟩, e3⟩ : ∃ q, q = q4 s2 := ⟨_, rfl⟩
  rw [← e3] at c3
  simp only at c3
  replace c3 := Lib.hid c3
  replace e3 := Lib.hid e3
  replace g2 := Lib.hid g2
  go_wp2_with fail
  refine c3.out.mono ?_
  rintro e v3 ⟨rfl, r3, z3⟩
  have y3 := g2.out.call (s' := s3) r3 z3
  obtain ⟨nm3, nl3⟩ := y3.num
  obtain ⟨xc3, xf3⟩ := y3.cell 2 rfl
  clear nm2 nl2 xc2 xf2
  have g3 := y3.set 2 (.int .i64 (k3 : Int)) (cs' := #[.int .i64 (k1 : Int), .int .i64 (k2 : Int), .int .i64 (k3 : Int), .int .i64 0, .string ⟨#[]⟩, .bool false, .string ⟨#[]⟩, .string ⟨#[]⟩, .int .i64 0, .int .i64 0, .slice none 0 0, .slice none 0 0, .slice none 0 0, .slice none 0 0]) rfl
  clear c3 r3 z3 y3 g2
  as_aux_lemma =>
  have c4 := g_long g3.rd
  obtain ⟨⟨k4, s4⟩, e4⟩ : ∃ q, q = q4 s3 := ⟨_, rfl⟩
  rw [← e4] at c4
  simp only at c4
  replace c4 := Lib.hid c4
  replace e4 := Lib.hid e4
  replace g3 := Lib.hid g3
  go_wp2_with fail
  refine c4.out.mono ?_
  rintro e v4 ⟨rfl, r4, z4⟩
  have y4 := g3.out.call (s' := s4) r4 z4
  obtain ⟨nm4, nl4⟩ := y4.num
  obtain ⟨xc4, xf4⟩ := y4.cell 3 rfl
  clear nm3 nl3 xc3 xf3
  have g4 := y4.set 3 (.int .i64 (k4 : Int)) (cs' := #[.int .i64 (k1 : Int), .int .i64 (k2 : Int), .int .i64 (k3 : Int), .int .i64 (k4 : Int), .string ⟨#[]⟩, .bool false, .string ⟨#[]⟩, .string ⟨#[]⟩, .int .i64 0, .int .i64 0, .slice none 0 0, .slice none 0 0, .slice none 0 0, .slice none 0 0]) rfl
  clear c4 r4 z4 y4 g3
  as_aux_lemma =>
  have c5 := g_text g4.rd
  obtain ⟨⟨k5, s5⟩, e5⟩ : ∃ q, q = qt s4 := ⟨_, rfl⟩
  rw [← e5] at c5
  simp only at c5
  replace c5 := Lib.hid c5
  replace e5 := Lib.hid e5
  replace g4 := Lib.hid g4
  go_wp2_with fail
  refine c5.out.mono ?_
  rintro e v5 ⟨rfl, r5, z5⟩
  have y5 := g4.out.call (s' := s5) r5 z5
  obtain ⟨nm5, nl5⟩ := y5.num
  obtain ⟨xc5, xf5⟩ := y5.cell 4 rfl
  clear nm4 nl4 xc4 xf4
  have g5 := y5.set 4 (.string (mk k5)) (cs' := #[.int .i64 (k1 : Int), .int .i64 (k2 : Int), .int .i64 (k3 : Int), .int .i64 (k4 : Int), .string (mk k5), .bool false, .string ⟨#[]⟩, .string ⟨#[]⟩, .int .i64 0, .int .i64 0, .slice none 0 0, .slice none 0 0, .slice none 0 0, .slice none 0 0]) rfl
  clear c5 r5 z5 y5 g4
  as_aux_lemma =>
  have c6 := g_num g5.rd
  obtain ⟨⟨k6, s6⟩, e6⟩ : ∃ q, q = q2 s5 := ⟨_, rfl⟩
  rw [← e6] at c6
  simp only at c6
  replace c6 := Lib.hid c6
  replace e6 := Lib.hid e6
  replace g5 := Lib.hid g5
  go_wp2_with fail
  refine c6.out.mono ?_
  rintro e v6 ⟨rfl, r6, z6⟩
  have y6 := g5.out.call (s' := s6) r6 z6
  obtain ⟨nm6, nl6⟩ := y6.num
  obtain ⟨xc6, xf6⟩ := y6.cell 5 rfl
  clear nm5 nl5 xc5 xf5
  have g6 := y6.set 5 (.bool ((k6 : Int) == 1)) (cs' := #[.int .i64 (k1 : Int), .int .i64 (k2 : Int), .int .i64 (k3 : Int), .int .i64 (k4 : Int), .string (mk k5), .bool ((k6 : Int) == 1), .string ⟨#[]⟩, .string ⟨#[]⟩, .int .i64 0, .int .i64 0, .slice none 0 0, .slice none 0 0, .slice none 0 0, .slice none 0 0]) rfl
  clear c6 r6 z6 y6 g5
  as_aux_lemma =>
  have c7 := g_text g6.rd
  obtain ⟨⟨k7, s7⟩, e7⟩ : ∃ q, q = qt s6 := ⟨_, rfl⟩
  rw [← e7] at c7
  simp only at c7
  replace c7 := Lib.hid c7
  replace e7 := Lib.hid e7
  replace g6 := Lib.hid g6
  go_wp2_with fail
  refine c7.out.mono ?_
  rintro e v7 ⟨rfl, r7, z7⟩
  have y7 := g6.out.call (s' := s7) r7 z7
  obtain ⟨nm7, nl7⟩ := y7.num
  obtain ⟨xc7, xf7⟩ := y7.cell 6 rfl
  clear nm6 nl6 xc6 xf6
  have g7 := y7.set 6 (.string (mk k7)) (cs' := #[.int .i64 (k1 : Int), .int .i64 (k2 : Int), .int .i64 (k3 : Int), .int .i64 (k4 : Int), .string (mk k5), .bool ((k6 : Int) == 1), .string (mk k7), .string ⟨#[]⟩, .int .i64 0, .int .i64 0, .slice none 0 0, .slice none 0 0, .slice none 0 0, .slice none 0 0]) rfl
  clear c7 r7 z7 y7 g6
  as_aux_lemma =>
  have c8 := g_text g7.rd
  obtain ⟨⟨k8, s8⟩, e8⟩ : ∃ q, q = qt s7 := ⟨_, rfl⟩
  rw [← e8] at c8
  simp only at c8
  replace c8 := Lib.hid c8
  replace e8 := Lib.hid e8
  replace g7 := Lib.hid g7
  go_wp2_with fail
  refine c8.out.mono ?_
  rintro e v8 ⟨rfl, r8, z8⟩
  have y8 := g7.out.call (s' := s8) r8 z8
  obtain ⟨nm8, nl8⟩ := y8.num
  obtain ⟨xc8, xf8⟩ := y8.cell 7 rfl
  clear nm7 nl7 xc7 xf7
  have g8 := y8.set 7 (.string (mk k8)) (cs' := #[.int .i64 (k1 : Int), .int .i64 (k2 : Int), .int .i64 (k3 : Int), .int .i64 (k4 : Int), .string (mk k5), .bool ((k6 : Int) == 1), .string (mk k7), .string (mk k8), .int .i64 0, .int .i64 0, .slice none 0 0, .slice none 0 0, .slice none 0 0, .slice none 0 0]) rfl
  clear c8 r8 z8 y8 g7
  as_aux_lemma =>
  have c9 := g_num g8.rd
  obtain ⟨⟨k9, s9⟩, e9⟩ : ∃ q, q = q2 s8 := ⟨_, rfl⟩
  rw [← e9] at c9
  simp only at c9
  replace c9 := Lib.hid c9
  replace e9 := Lib.hid e9
  replace g8 := Lib.hid g8
  go_wp2_with fail
  refine c9.out.mono ?_
  rintro e v9 ⟨rfl, r9, z9⟩
  have y9 := g8.out.call (s' := s9) r9 z9
  obtain ⟨nm9, nl9⟩ := y9.num
  obtain ⟨xc9, xf9⟩ := y9.cell 8 rfl
  clear nm8 nl8 xc8 xf8
  have g9 := y9.set 8 (.int .i64 (k9 : Int)) (cs' := #[.int .i64 (k1 : Int), .int .i64 (k2 : Int), .int .i64 (k3 : Int), .int .i64 (k4 : Int), .string (mk k5), .bool ((k6 : Int) == 1), .string (mk k7), .string (mk k8), .int .i64 (k9 : Int), .int .i64 0, .slice none 0 0, .slice none 0 0, .slice none 0 0, .slice none 0 0]) rfl
  clear c9 r9 z9 y9 g8
  as_aux_lemma =>
  have c10 := g_num g9.rd
  obtain ⟨⟨k10, s10⟩, e10⟩ : ∃ q, q = q2 s9 := ⟨_, rfl⟩
  rw [← e10] at c10
  simp only at c10
  replace c10 := Lib.hid c10
  replace e10 := Lib.hid e10
  replace g9 := Lib.hid g9
  go_wp2_with fail
  refine c10.out.mono ?_
  rintro e v10 ⟨rfl, r10, z10⟩
  have y10 := g9.out.call (s' := s10) r10 z10
  obtain ⟨nm10, nl10⟩ := y10.num
  obtain ⟨xc10, xf10⟩ := y10.cell 9 rfl
  clear nm9 nl9 xc9 xf9
  have g10 := y10.set 9 (.int .i64 (k10 : Int)) (cs' := #[.int .i64 (k1 : Int), .int .i64 (k2 : Int), .int .i64 (k3 : Int), .int .i64 (k4 : Int), .string (mk k5), .bool ((k6 : Int) == 1), .string (mk k7), .string (mk k8), .int .i64 (k9 : Int), .int .i64 (k10 : Int), .slice none 0 0, .slice none 0 0, .slice none 0 0, .slice none 0 0]) rfl
  clear c10 r10 z10 y10 g9
  as_aux_lemma =>
  go_wp2_with fail
  rename_i Qx Kx hKx
  have hnb := g10.num.1
  have hrc := cell_of (i := 0) g10.rcc rfl
  have c11 := g_nums g10.rd hnb hrc (by omega) (by omega)
  obtain ⟨⟨k11, s11⟩, e11⟩ : ∃ q, q = qnums s10 := ⟨_, rfl⟩
  rw [← e11] at c11
  simp only at c11
  replace c11 := Lib.hid c11
  replace e11 := Lib.hid e11
  have l10 := lt_of g10.xc
  replace g10 := Lib.hid g10
  clear hnb xc10 xf10 nm10 nl10
  go_wp2_with fail
  refine c11.out.mono ?_
  rintro e v11 ⟨vP, rfl, o11, r11, z11⟩
  obtain ⟨aP, lP, cP, rfl, hlP⟩ := own_form o11
  subst lP
  have y11 := g10.out.call (s' := s11) r11 z11
  obtain ⟨nm11, nl11⟩ := y11.num
  obtain ⟨xc11, xf11⟩ := y11.cell 10 rfl
  have g11 := y11.set 10 (.slice aP k11.length cP) (cs' := #[.int .i64 (k1 : Int), .int .i64 (k2 : Int), .int .i64 (k3 : Int), .int .i64 (k4 : Int), .string (mk k5), .bool ((k6 : Int) == 1), .string (mk k7), .string (mk k8), .int .i64 (k9 : Int), .int .i64 (k10 : Int), .slice aP k11.length cP, .slice none 0 0, .slice none 0 0, .slice none 0 0]) rfl
  have l11 := z11.size
  have p11 := (Chg.setCell (a := ⟨w.heap.size + 1 + 1 + 1 + 1, 10, none⟩) (S := fun k => k = w.heap.size + 1 + 1 + 1 + 1) (Chg.refl _ v11) (fun _ => rfl) (.slice aP k11.length cP)).row o11 (fun k hk e => by have := (o11.lt k hk).1; omega)
  have p11' := row_base p11 (show w.heap.size + 1 + 1 + 1 + 1 + 1 ≤ _ by omega)
  clear p11 c11 z11 r11 o11 y11 g10
  have c12 := g_num g11.rd
  obtain ⟨⟨k12, s12⟩, e12⟩ : ∃ q, q = q2 s11 := ⟨_, rfl⟩
  have hk12 := q2_lt s11
  rw [← e12] at c12 hk12
  simp only at c12 hk12
  replace c12 := Lib.hid c12
  replace e12 := Lib.hid e12
  replace g11 := Lib.hid g11
  replace p11' := Lib.hid p11'
  go_wp2_with fail
  refine c12.out.mono ?_
  rintro e v12 ⟨rfl, r12, z12⟩
  have y12 := g11.out.call (s' := s12) r12 z12
  obtain ⟨nm12, nl12⟩ := y12.num
  have p12 := z12.row p11'.out (fun k hk e => by have := (p11'.out.lt k hk).1; omega)
  have hlp := p12.lt
  clear c12 r12 z12 g11 p11' nm11 nl11 xc11 xf11
  as_aux_lemma =>
  replace y12 := Lib.hid y12
  replace p12 := Lib.hid p12
  replace hlp := Lib.hid hlp
  obtain ⟨ii, hi0, hz0, hz1, hz2⟩ := info_parts infoPat
  obtain ⟨Q1, hQ1⟩ : ∃ q, q = qmany qpat k12 s12 := ⟨_, rfl⟩
  replace hQ1 := Lib.hid hQ1
  go_upto_block 0 with fail
  go_cut [10] (fun nv wr => ∃ (vQ : Value), GS w wr #[.int .i64 (k1 : Int), .int .i64 (k2 : Int), .int .i64 (k3 : Int), .int .i64 (k4 : Int), .string (mk k5), .bool ((k6 : Int) == 1), .string (mk k7), .string (mk k8), .int .i64 (k9 : Int), .int .i64 (k10 : Int), .slice aP k11.length cP, vQ, .slice none 0 0, .slice none 0 0] Q1.2 ∧ Chg (fun k => k = w.heap.size + 1 ∨ k = w.heap.size + 1 + 1 + 1 + 1) v12 wr ∧ wr.ownsRow v12.heap.size 77 3 vQ Q1.1.length (patcells Q1.1))
  case first => as_aux_lemma =>
    go_wp2_with fail
    go_loopg [10] k12 (fun g nv wr => ∃ (k : Nat) (s' : Rs) (dn : List Pt) (vQ : Value), g = k ∧ nv = .int .i64 k ∧ Aside (Q1 = (dn ++ (qmany qpat k s').1, (qmany qpat k s').2) ∧ dn.length + k ≤ 65535 ∧ GS w wr #[.int .i64 (k1 : Int), .int .i64 (k2 : Int), .int .i64 (k3 : Int), .int .i64 (k4 : Int), .string (mk k5), .bool ((k6 : Int) == 1), .string (mk k7), .string (mk k8), .int .i64 (k9 : Int), .int .i64 (k10 : Int), .slice aP k11.length cP, vQ, .slice none 0 0, .slice none 0 0] s' ∧ Chg (fun k => k = w.heap.size + 1 ∨ k = w.heap.size + 1 + 1 + 1 + 1) v12 wr ∧ wr.ownsRow v12.heap.size 77 3 vQ dn.length (patcells dn)))
    case atStart => exact ⟨k12, s12, [], .slice none 0 0, rfl, rfl, by rw [hQ1.out]; simp, by simp; omega, y12.out, Chg.refl _ _, World.ownsRow_nil _ _ _ _⟩
    case round =>
    obtain ⟨k, s', dn, vQ, hgk, rfl, hI⟩ := hrel
    obtain ⟨i1, i2, i3, i4, i5⟩ := hI.out
    obtain ⟨av, lv, cv, rfl, hlv⟩ := own_form i5
    subst lv
    clear hI
    obtain ⟨f1, f3⟩ := i3.num
    have f2 : wr.cell? ⟨w.heap.size + 1 + 1, 0, none⟩ = some (.pointer (some ⟨w.heap.size + 1, 0, none⟩)) := cell_of (i := 0) i3.rcc rfl
    have cB := g_bad i3.rd
    cases k with
    | zero =>
      have hfin : Q1 = (dn, s') := by rw [i1]; simp [qmany]
      replace hfin := Lib.hid hfin
      replace i3 := Lib.hid i3
      replace i4 := Lib.hid i4
      replace i5 := Lib.hid i5
      clear i1 cB
      go_wp2_with fail
      go_meet
      rw [hfin.out]
      exact ⟨_, i3.out, i4.out, i5.out⟩
    | succ k =>
      have hpos : (0 : Int) < ((k + 1 : Nat) : Int) := by omega
      cases hb : s'.2 with
      | true =>
        have hfin : Q1 = (dn, s') := by rw [i1]; simp [qmany, hb]
        rw [hb] at cB
        replace cB := Lib.hid cB
        replace hfin := Lib.hid hfin
        replace hb := Lib.hid hb
        replace i3 := Lib.hid i3
        replace i4 := Lib.hid i4
        replace i5 := Lib.hid i5
        clear i1
        go_wp2_with fail
        refine cB.out.mono ?_
        rintro e w' ⟨rfl, rfl⟩
        go_wp2_with fail
        go_meet
        rw [hfin.out]
        exact ⟨_, i3.out, i4.out, i5.out⟩
      | false =>
        have hnx : Q1 = ((dn ++ [(qpat s').1]) ++ (qmany qpat k (qpat s').2).1, (qmany qpat k (qpat s').2).2) := by rw [i1]; simp [qmany, hb]
        rw [hb] at cB
        replace cB := Lib.hid cB
        replace hnx := Lib.hid hnx
        replace hb := Lib.hid hb
        replace i4 := Lib.hid i4
        replace i5 := Lib.hid i5
        clear i1
        have q0 := qs_start i3 #[.int .i64 0, .int .i64 0, .string ⟨#[]⟩] 77
        have hpl := q0.lt
        obtain ⟨nm20, nl20⟩ := q0.num
        replace i3 := Lib.hid i3
        go_wp2_with fail
        refine cB.out.mono ?_
        rintro e w' ⟨rfl, rfl⟩
        have c21 := g_num q0.gs.rd
        obtain ⟨⟨m1, t21⟩, d21⟩ : ∃ q, q = q2 s' := ⟨_, rfl⟩
        rw [← d21] at c21
        simp only at c21
        replace c21 := Lib.hid c21
        replace d21 := Lib.hid d21
        replace q0 := Lib.hid q0
        go_wp2_with fail
        refine c21.out.mono ?_
        rintro e u21 ⟨rfl, r21, z21⟩
        have y21 := q0.out.call (s' := t21) r21 z21
        obtain ⟨nm21, nl21⟩ := y21.num
        obtain ⟨pc21, pf21⟩ := y21.cell 0 rfl
        clear nm20
        have q1 := y21.set 0 (.int .i64 (m1 : Int)) (ds' := #[.int .i64 (m1 : Int), .int .i64 0, .string ⟨#[]⟩]) rfl
        clear c21 r21 z21 y21 q0
        as_aux_lemma =>
        have c22 := g_num q1.gs.rd
        obtain ⟨⟨m2, t22⟩, d22⟩ : ∃ q, q = q2 t21 := ⟨_, rfl⟩
        rw [← d22] at c22
        simp only at c22
        replace c22 := Lib.hid c22
        replace d22 := Lib.hid d22
        replace q1 := Lib.hid q1
        go_wp2_with fail
        refine c22.out.mono ?_
        rintro e u22 ⟨rfl, r22, z22⟩
        have y22 := q1.out.call (s' := t22) r22 z22
        obtain ⟨nm22, nl22⟩ := y22.num
        obtain ⟨pc22, pf22⟩ := y22.cell 1 rfl
        clear nm21 pc21 pf21 nl21
        have q2 := y22.set 1 (.int .i64 (m2 : Int)) (ds' := #[.int .i64 (m1 : Int), .int .i64 (m2 : Int), .string ⟨#[]⟩]) rfl
        clear c22 r22 z22 y22 q1
        as_aux_lemma =>
        have c23 := g_text q2.gs.rd
        obtain ⟨⟨m3, t23⟩, d23⟩ : ∃ q, q = qt t22 := ⟨_, rfl⟩
        rw [← d23] at c23
        simp only at c23
        replace c23 := Lib.hid c23
        replace d23 := Lib.hid d23
        replace q2 := Lib.hid q2
        go_wp2_with fail
        refine c23.out.mono ?_
        rintro e u23 ⟨rfl, r23, z23⟩
        have y23 := q2.out.call (s' := t23) r23 z23
        obtain ⟨nm23, nl23⟩ := y23.num
        obtain ⟨pc23, pf23⟩ := y23.cell 2 rfl
        clear nm22 pc22 pf22 nl22
        have q3 := y23.set 2 (.string (mk m3)) (ds' := #[.int .i64 (m1 : Int), .int .i64 (m2 : Int), .string (mk m3)]) rfl
        clear c23 r23 z23 y23 q2
        as_aux_lemma =>
        go_upto_region 23 with fail
        have hq : qpat s' = (⟨m1, m2, m3⟩, t23) := by have a1 := d21.out; have a2 := d22.out; have a3 := d23.out; simp only [qpat, ← a1, ← a2, ← a3]
        have hnx2 := hnx.out
        rw [hq] at hnx2
        simp only at hnx2
        replace hnx2 := Lib.hid hnx2
        replace hq := Lib.hid hq
        clear hnx d21 d22 d23
        have xq : (u23.setCell ⟨wr.heap.size, 2, none⟩ (.string (mk m3))).cell? ⟨w.heap.size + 1 + 1 + 1 + 1, 11, none⟩ = some (.slice av dn.length cv) := (q3.gs.cell 11 rfl).1
        have pq0 : (u23.setCell ⟨wr.heap.size, 2, none⟩ (.string (mk m3))).cell? ⟨wr.heap.size, 0, none⟩ = some (.int .i64 (m1 : Int)) := (q3.cell 0 rfl).1
        have pq1 : (u23.setCell ⟨wr.heap.size, 2, none⟩ (.string (mk m3))).cell? ⟨wr.heap.size, 1, none⟩ = some (.int .i64 (m2 : Int)) := (q3.cell 1 rfl).1
        have pq2 : (u23.setCell ⟨wr.heap.size, 2, none⟩ (.string (mk m3))).cell? ⟨wr.heap.size, 2, none⟩ = some (.string (mk m3)) := (q3.cell 2 rfl).1
        have hx3 := q3.gs.xc
        have hl3 := q3.ch.size
        have hlv := i4.out.size
        have o3 := q3.ch.row i5.out (fun k hk e => by have := (i5.out.lt k hk).1; have := nl12; omega)
        clear nm23 pc23 pf23 nl23
        generalize u23.setCell ⟨wr.heap.size, 2, none⟩ (Value.string (mk m3)) = wE at q3 o3 xq pq0 pq1 pq2 hl3 hx3 ⊢
        replace hx3 := Lib.hid hx3
        replace q3 := Lib.hid q3
        replace o3 := Lib.hid o3
        go_wp2_with (at_builtin; refine wpList_append_own' rfl (.tmp 86) (.tmp 88) 33 rfl v12.heap.size 77 ii (.agg #[.int .i64 0, .int .i64 0, .string ByteArray.empty]) 3 32 Tryd.underlying33 hi0 hz0 hz1 hz2 rfl (by decide) _ _ _ rfl (o3.out.alloc _) ⟨wE.heap.size, 0, none⟩ 1 1 (patcells [⟨m1, m2, m3⟩]) rfl rfl (new_three _ rfl) (by intro u hu; simp [patcells] at hu; rcases hu with rfl | rfl | rfl <;> rfl) (by unfold maxLen; omega) (by omega) (by simp; omega) ?_; intro v6 w6 hown6 hgrow6 hrow6; have hc6 : Chg (fun j => (Value.slice av dn.length cv).ownBlock = some j) wE w6 := ((Chg.refl _ wE).alloc _).grown hgrow6 (fun j _ e => e); obtain ⟨a6, l6, c6, rfl, hl6⟩ := own_form hown6; subst hl6; have hx6 := hc6.heap hx3.out (fun e => by have := (o3.out.lt _ e).1; omega); have xc6 : w6.cell? ⟨w.heap.size + 1 + 1 + 1 + 1, 11, none⟩ = some (.slice av dn.length cv) := cell_of hx6 rfl; have xf6 := free_of (i := 11) hx6; have g6 := q3.out.gs.row hc6 (fun k e => by have := (o3.out.lt k e).1; omega); replace hc6 := Lib.hid hc6; replace g6 := Lib.hid g6; replace hown6 := Lib.hid hown6; clear hgrow6 hrow6 hx6)
        have c7 := (i4.out.trans (q3.out.ch.mono (T := fun k => k = w.heap.size + 1 ∨ k = w.heap.size + 1 + 1 + 1 + 1) (fun k _ e => .inl e)) (fun _ _ e => e)).trans hc6.out (fun j hj e => by have := (o3.out.lt j e).1; omega)
        have c8 := c7.setCell (a := ⟨w.heap.size + 1 + 1 + 1 + 1, 11, none⟩) (fun _ => .inr rfl) (.slice a6 (dn.length + 1) c6)
        have o8 := (Chg.setCell (a := ⟨w.heap.size + 1 + 1 + 1 + 1, 11, none⟩) (S := fun k => k = w.heap.size + 1 + 1 + 1 + 1) (Chg.refl _ w6) (fun _ => rfl) (.slice a6 (dn.length + 1) c6)).row hown6.out (fun k hk e => by have := (hown6.out.lt k hk).1; omega)
        go_roundg k
        case rel => exact ⟨k, t23, dn ++ [⟨m1, m2, m3⟩], .slice a6 (dn.length + 1) c6, rfl, by first | rfl | go_num, hnx2.out, by simp; omega, g6.out.set 11 _ rfl, c8, by rw [List.length_append, patcells_append]; exact o8⟩
        case measure => omega
  case rest => as_aux_lemma =>
  obtain ⟨vQ, g13, h13, o13⟩ := hcut
  obtain ⟨aQ, lQ, cQ, rfl, hlQ⟩ := own_form o13
  subst lQ
  obtain ⟨x13, s13⟩ := Q1
  simp only at g13 o13
  have hb13 := h13.size
  have p13 := h13.row p12.out (fun k hk e => by have := (p12.out.lt k hk).1; omega)
  have o13' := row_base o13 (show w.heap.size + 1 + 1 + 1 + 1 + 1 ≤ v12.heap.size by omega)
  have c14 := g_num g13.rd
  obtain ⟨⟨k14, s14⟩, e14⟩ : ∃ q, q = q2 s13 := ⟨_, rfl⟩
  have hk14 := q2_lt s13
  rw [← e14] at c14 hk14
  simp only at c14 hk14
  obtain ⟨nm13, nl13⟩ := g13.num
  clear o13 h13 y12 p12
  replace c14 := Lib.hid c14
  replace e14 := Lib.hid e14
  replace g13 := Lib.hid g13
  replace p13 := Lib.hid p13
  replace o13' := Lib.hid o13'
  go_wp2_with fail
  refine c14.out.mono ?_
  rintro e v14 ⟨rfl, r14, z14⟩
  have y14 := g13.out.call (s' := s14) r14 z14
  obtain ⟨nm14, nl14⟩ := y14.num
  have p14 := z14.row p13.out (fun k hk e => by have := (p13.out.lt k hk).1; omega)
  have o14 := z14.row o13'.out (fun k hk e => by have := (o13'.out.lt k hk).1; omega)
  clear c14 r14 z14 g13 p13 o13' nm13 nl13
  as_aux_lemma =>
  replace y14 := Lib.hid y14
  replace p14 := Lib.hid p14
  replace o14 := Lib.hid o14
  obtain ⟨ii, hi0, hz0, hz1, hz2⟩ := info_parts infoTx
  obtain ⟨Q2, hQ2⟩ : ∃ q, q = qmany qtx k14 s14 := ⟨_, rfl⟩
  replace hQ2 := Lib.hid hQ2
  go_upto_block 2 with fail
  go_cut [12] (fun nv wr => ∃ (vX : Value) (ps : List (Tt × Value)), ps.map (·.1) = Q2.1 ∧ GS w wr #[.int .i64 (k1 : Int), .int .i64 (k2 : Int), .int .i64 (k3 : Int), .int .i64 (k4 : Int), .string (mk k5), .bool ((k6 : Int) == 1), .string (mk k7), .string (mk k8), .int .i64 (k9 : Int), .int .i64 (k10 : Int), .slice aP k11.length cP, .slice aQ x13.length cQ, vX, .slice none 0 0] Q2.2 ∧ Chg (fun k => k = w.heap.size + 1 ∨ k = w.heap.size + 1 + 1 + 1 + 1) v14 wr ∧ wr.ownsRow v14.heap.size 79 4 vX ps.length (txcells ps) ∧ Inner wr v14.heap.size vX ps)
  case first => as_aux_lemma =>
    go_wp2_with fail
    go_loopg [12] k14 (fun g nv wr => ∃ (k : Nat) (s' : Rs) (ps : List (Tt × Value)) (vX : Value), g = k ∧ nv = .int .i64 k ∧ Aside (Q2 = (ps.map (·.1) ++ (qmany qtx k s').1, (qmany qtx k s').2) ∧ ps.length + k ≤ 65535 ∧ GS w wr #[.int .i64 (k1 : Int), .int .i64 (k2 : Int), .int .i64 (k3 : Int), .int .i64 (k4 : Int), .string (mk k5), .bool ((k6 : Int) == 1), .string (mk k7), .string (mk k8), .int .i64 (k9 : Int), .int .i64 (k10 : Int), .slice aP k11.length cP, .slice aQ x13.length cQ, vX, .slice none 0 0] s' ∧ Chg (fun k => k = w.heap.size + 1 ∨ k = w.heap.size + 1 + 1 + 1 + 1) v14 wr ∧ wr.ownsRow v14.heap.size 79 4 vX ps.length (txcells ps) ∧ Inner wr v14.heap.size vX ps))
    case atStart => exact ⟨k14, s14, [], .slice none 0 0, rfl, rfl, by rw [hQ2.out]; simp, by simp; omega, y14.out, Chg.refl _ _, World.ownsRow_nil _ _ _ _, inner_nil _ _ _⟩
    case round =>
    obtain ⟨k, s', ps, vX, hgk, rfl, hI⟩ := hrel
    obtain ⟨i1, i2, i3, i4, i5, i6⟩ := hI.out
    obtain ⟨av, lv, cv, rfl, hlv⟩ := own_form i5
    subst lv
    clear hI
    obtain ⟨f1, f3⟩ := i3.num
    have f2 : wr.cell? ⟨w.heap.size + 1 + 1, 0, none⟩ = some (.pointer (some ⟨w.heap.size + 1, 0, none⟩)) := cell_of (i := 0) i3.rcc rfl
    have cB := g_bad i3.rd
    cases k with
    | zero =>
      have hfin : Q2 = (ps.map (·.1), s') := by rw [i1]; simp [qmany]
      replace hfin := Lib.hid hfin
      replace i3 := Lib.hid i3
      replace i4 := Lib.hid i4
      replace i5 := Lib.hid i5
      replace i6 := Lib.hid i6
      clear i1 cB
      go_wp2_with fail
      go_meet
      rw [hfin.out]
      exact ⟨_, ps, rfl, i3.out, i4.out, i5.out, i6.out⟩
    | succ k =>
      have hpos : (0 : Int) < ((k + 1 : Nat) : Int) := by omega
      cases hb : s'.2 with
      | true =>
        have hfin : Q2 = (ps.map (·.1), s') := by rw [i1]; simp [qmany, hb]
        rw [hb] at cB
        replace cB := Lib.hid cB
        replace hfin := Lib.hid hfin
        replace hb := Lib.hid hb
        replace i3 := Lib.hid i3
        replace i4 := Lib.hid i4
        replace i5 := Lib.hid i5
        replace i6 := Lib.hid i6
        clear i1
        go_wp2_with fail
        refine cB.out.mono ?_
        rintro e w' ⟨rfl, rfl⟩
        go_wp2_with fail
        go_meet
        rw [hfin.out]
        exact ⟨_, ps, rfl, i3.out, i4.out, i5.out, i6.out⟩
      | false =>
        have hnx : Q2 = ((ps.map (·.1) ++ [(qtx s').1]) ++ (qmany qtx k (qtx s').2).1, (qmany qtx k (qtx s').2).2) := by rw [i1]; simp [qmany, hb]
        rw [hb] at cB
        replace cB := Lib.hid cB
        replace hnx := Lib.hid hnx
        replace hb := Lib.hid hb
        have c21 := g_num i3.rd
        obtain ⟨⟨m1, t21⟩, d21⟩ : ∃ q, q = q2 s' := ⟨_, rfl⟩
        rw [← d21] at c21
        simp only at c21
        replace c21 := Lib.hid c21
        replace d21 := Lib.hid d21
        replace i4 := Lib.hid i4
        replace i5 := Lib.hid i5
        replace i6 := Lib.hid i6
        replace i3 := Lib.hid i3
        clear i1
        go_wp2_with fail
        refine cB.out.mono ?_
        rintro e w' ⟨rfl, rfl⟩
        go_wp2_with fail
        refine c21.out.mono ?_
        rintro e u21 ⟨rfl, r21, z21⟩
        have y21 := i3.out.call (s' := t21) r21 z21
        have q0 := qs_start y21 #[.int .i64 (m1 : Int), .int .i64 0, .bool false, .slice none 0 0] 79
        have hpl := q0.lt
        obtain ⟨nm20, nl20⟩ := q0.num
        have i4b := i4.out.trans (z21.mono (T := fun k => k = w.heap.size + 1 ∨ k = w.heap.size + 1 + 1 + 1 + 1) (fun k _ e => .inl e)) (fun _ _ e => e)
        have i5b := z21.row i5.out (fun k hk e => by have := (i5.out.lt k hk).1; omega)
        have i6b := i6.out.chg z21 (fun p hp k hk e => by have := (i6.out.lt p hp k hk).1; omega)
        clear c21 r21 z21 y21 i3 i4 i5 i6 f1 f2 f3
        as_aux_lemma =>
        replace i4b := Lib.hid i4b
        replace i5b := Lib.hid i5b
        replace i6b := Lib.hid i6b
        have c22 := g_long q0.gs.rd
        obtain ⟨⟨m2, t22⟩, d22⟩ : ∃ q, q = q4 t21 := ⟨_, rfl⟩
        rw [← d22] at c22
        simp only at c22
        replace c22 := Lib.hid c22
        replace d22 := Lib.hid d22
        replace q0 := Lib.hid q0
        go_wp2_with fail
        refine c22.out.mono ?_
        rintro e u22 ⟨rfl, r22, z22⟩
        have y22 := q0.out.call (s' := t22) r22 z22
        obtain ⟨nm22, nl22⟩ := y22.num
        obtain ⟨pc22, pf22⟩ := y22.cell 1 rfl
        clear nm20
        have q1 := y22.set 1 (.int .i64 (m2 : Int)) (ds' := #[.int .i64 (m1 : Int), .int .i64 (m2 : Int), .bool false, .slice none 0 0]) rfl
        clear c22 r22 z22 y22 q0
        as_aux_lemma =>
        have c23 := g_num q1.gs.rd
        obtain ⟨⟨m3, t23⟩, d23⟩ : ∃ q, q = q2 t22 := ⟨_, rfl⟩
        rw [← d23] at c23
        simp only at c23
        replace c23 := Lib.hid c23
        replace d23 := Lib.hid d23
        replace q1 := Lib.hid q1
        go_wp2_with fail
        refine c23.out.mono ?_
        rintro e u23 ⟨rfl, r23, z23⟩
        have y23 := q1.out.call (s' := t23) r23 z23
        obtain ⟨nm23, nl23⟩ := y23.num
        obtain ⟨pc23, pf23⟩ := y23.cell 2 rfl
        clear nm22 pc22 pf22 nl22
        have q2 := y23.set 2 (.bool ((m3 : Int) == 1)) (ds' := #[.int .i64 (m1 : Int), .int .i64 (m2 : Int), .bool ((m3 : Int) == 1), .slice none 0 0]) rfl
        clear c23 r23 z23 y23 q1
        as_aux_lemma =>
        have hqs := q2.ch.size
        have hnb := q2.gs.num.1
        have hrc := cell_of (i := 0) q2.gs.rcc rfl
        have c24 := g_nums q2.gs.rd hnb hrc (by omega) (by omega)
        obtain ⟨⟨k24, t24⟩, d24⟩ : ∃ q, q = qnums t23 := ⟨_, rfl⟩
        rw [← d24] at c24
        simp only at c24
        have l2 := lt_of q2.pc
        replace c24 := Lib.hid c24
        replace d24 := Lib.hid d24
        replace q2 := Lib.hid q2
        clear hnb hrc
        go_wp2_with fail
        refine c24.out.mono ?_
        rintro e u24 ⟨vI, rfl, oI, r24, z24⟩
        obtain ⟨aI, lI, cI, rfl, hlI⟩ := own_form oI
        subst lI
        have y24 := q2.out.call (s' := t24) r24 z24
        obtain ⟨nm24, nl24⟩ := y24.num
        obtain ⟨pc24, pf24⟩ := y24.cell 3 rfl
        have q3 := y24.set 3 (.slice aI k24.length cI) (ds' := #[.int .i64 (m1 : Int), .int .i64 (m2 : Int), .bool ((m3 : Int) == 1), .slice aI k24.length cI]) rfl
        have oI3 := (Chg.setCell (a := ⟨u21.heap.size, 3, none⟩) (S := fun k => k = u21.heap.size) (Chg.refl _ u24) (fun _ => rfl) (.slice aI k24.length cI)).row oI (fun k hk e => by have := (oI.lt k hk).1; omega)
        clear c24 r24 z24 y24 oI
        as_aux_lemma =>
        replace q3 := Lib.hid q3
        replace oI3 := Lib.hid oI3
        go_upto_region 31 with fail
        have hcom : decide (m3 = 1) = ((m3 : Int) == 1) := by rw [Bool.eq_iff_iff]; simp; omega
        have hq : qtx s' = (⟨m1, m2, (m3 : Int) == 1, k24⟩, t24) := by have a1 := d21.out; have a2 := d22.out; have a3 := d23.out; have a4 := d24.out; simp only [qtx, ← a1, ← a2, ← a3, ← a4, hcom]
        have hnx2 := hnx.out
        rw [hq] at hnx2
        simp only at hnx2
        replace hnx2 := Lib.hid hnx2
        clear hnx hq hcom d21 d22 d23 d24
        have xq : (u24.setCell ⟨u21.heap.size, 3, none⟩ (.slice aI k24.length cI)).cell? ⟨w.heap.size + 1 + 1 + 1 + 1, 12, none⟩ = some (.slice av ps.length cv) := (q3.out.gs.cell 12 rfl).1
        have pq0 : (u24.setCell ⟨u21.heap.size, 3, none⟩ (.slice aI k24.length cI)).cell? ⟨u21.heap.size, 0, none⟩ = some (.int .i64 (m1 : Int)) := (q3.out.cell 0 rfl).1
        have pq1 : (u24.setCell ⟨u21.heap.size, 3, none⟩ (.slice aI k24.length cI)).cell? ⟨u21.heap.size, 1, none⟩ = some (.int .i64 (m2 : Int)) := (q3.out.cell 1 rfl).1
        have pq2 : (u24.setCell ⟨u21.heap.size, 3, none⟩ (.slice aI k24.length cI)).cell? ⟨u21.heap.size, 2, none⟩ = some (.bool ((m3 : Int) == 1)) := (q3.out.cell 2 rfl).1
        have pq3 : (u24.setCell ⟨u21.heap.size, 3, none⟩ (.slice aI k24.length cI)).cell? ⟨u21.heap.size, 3, none⟩ = some (.slice aI k24.length cI) := (q3.out.cell 3 rfl).1
        have hx3 := q3.out.gs.xc
        have hl3 := q3.out.ch.size
        have hlv := i4b.out.size
        have o3 := q3.out.ch.row i5b.out (fun k hk e => by have := (i5b.out.lt k hk).1; omega)
        have n3 := i6b.out.chg q3.out.ch (fun p hp k hk e => by have := (i6b.out.lt p hp k hk).1; omega)
        have n4 := n3.push (t := ⟨m1, m2, (m3 : Int) == 1, k24⟩) (row_base oI3.out (by omega)) (fun k hk e => by have := (oI3.out.lt k hk).1; have := (i5b.out.lt k e).2; omega)
        clear nm24 pc24 pf24 nl24 n3 oI3 i6b
        generalize u24.setCell ⟨u21.heap.size, 3, none⟩ (Value.slice aI k24.length cI) = wE at q3 o3 n4 xq pq0 pq1 pq2 pq3 hl3 hx3 ⊢
        replace hx3 := Lib.hid hx3
        replace o3 := Lib.hid o3
        replace n4 := Lib.hid n4
        go_wp2_with (at_builtin; refine wpList_append_own' rfl (.tmp 116) (.tmp 118) 34 rfl v14.heap.size 79 ii (.agg #[.int .i64 0, .int .i64 0, .bool false, .slice none 0 0]) 4 48 Tryd.underlying34 hi0 hz0 hz1 hz2 rfl (by decide) _ _ _ rfl (o3.out.alloc _) ⟨wE.heap.size, 0, none⟩ 1 1 (txcells [(⟨m1, m2, (m3 : Int) == 1, k24⟩, .slice aI k24.length cI)]) rfl rfl (new_four _ rfl) (by intro u hu; simp [txcells] at hu; rcases hu with rfl | rfl | rfl | rfl <;> rfl) (by unfold maxLen; omega) (by omega) (by simp; omega) ?_; intro v6 w6 hown6 hgrow6 hrow6; have hc6 : Chg (fun j => (Value.slice av ps.length cv).ownBlock = some j) wE w6 := ((Chg.refl _ wE).alloc _).grown hgrow6 (fun j _ e => e); obtain ⟨a6, l6, c6, rfl, hl6⟩ := own_form hown6; subst hl6; have hx6 := hc6.heap hx3.out (fun e => by have := (o3.out.lt _ e).1; omega); have xc6 : w6.cell? ⟨w.heap.size + 1 + 1 + 1 + 1, 12, none⟩ = some (.slice av ps.length cv) := cell_of hx6 rfl; have xf6 := free_of (i := 12) hx6; have g6 := q3.out.gs.row hc6 (fun k e => by have := (o3.out.lt k e).1; omega); have n6 := (n4.out.chg hc6 (fun p hp k hk e => (n4.out p hp).2 k hk e)).turn (m := wE.heap.size) (v' := .slice a6 (ps.length + 1) c6) (fun p hp k hk => (n4.out.lt p hp k hk).2) (hrow6.imp id (fun h k hk => by have := h k hk; simp at this; omega)); replace hc6 := Lib.hid hc6; replace g6 := Lib.hid g6; replace n6 := Lib.hid n6; replace hown6 := Lib.hid hown6; clear hgrow6 hrow6 hx6)
        have c7 := (i4b.out.trans (q3.out.ch.mono (T := fun k => k = w.heap.size + 1 ∨ k = w.heap.size + 1 + 1 + 1 + 1) (fun k _ e => .inl e)) (fun _ _ e => e)).trans hc6.out (fun j hj e => by have := (o3.out.lt j e).1; omega)
        have c8 := c7.setCell (a := ⟨w.heap.size + 1 + 1 + 1 + 1, 12, none⟩) (fun _ => .inr rfl) (.slice a6 (ps.length + 1) c6)
        have c9 := Chg.setCell (a := ⟨w.heap.size + 1 + 1 + 1 + 1, 12, none⟩) (S := fun k => k = w.heap.size + 1 + 1 + 1 + 1) (Chg.refl _ w6) (fun _ => rfl) (.slice a6 (ps.length + 1) c6)
        have o8 := c9.row hown6.out (fun k hk e => by have := (hown6.out.lt k hk).1; omega)
        have n8 := n6.out.chg c9 (fun p hp k hk e => by have := (n6.out.lt p hp k hk).1; omega)
        go_roundg k
        case rel => exact ⟨k, t24, ps ++ [(⟨m1, m2, (m3 : Int) == 1, k24⟩, .slice aI k24.length cI)], .slice a6 (ps.length + 1) c6, rfl, by first | rfl | go_num, by rw [List.map_append]; exact hnx2.out, by simp; omega, g6.out.set 12 _ rfl, c8, by rw [List.length_append, txcells_append]; exact o8, n8⟩
        case measure => omega
  case rest => as_aux_lemma =>
  obtain ⟨vX, pX, hpX, g15, h15, o15, n15⟩ := hcut
  obtain ⟨aX, lX, cX, rfl, hlX⟩ := own_form o15
  subst lX
  obtain ⟨x15, s15⟩ := Q2
  simp only at g15 hpX
  subst hpX
  have hb15 := h15.size
  have p15 := h15.row p14.out (fun k hk e => by have := (p14.out.lt k hk).1; omega)
  have q15 := h15.row o14.out (fun k hk e => by have := (o14.out.lt k hk).1; omega)
  have c16 := g_num g15.rd
  obtain ⟨⟨k16, s16⟩, e16⟩ : ∃ q, q = q2 s15 := ⟨_, rfl⟩
  have hk16 := q2_lt s15
  rw [← e16] at c16 hk16
  simp only at c16 hk16
  obtain ⟨nm15, nl15⟩ := g15.num
  clear h15 y14 p14 o14
  replace c16 := Lib.hid c16
  replace e16 := Lib.hid e16
  replace g15 := Lib.hid g15
  replace p15 := Lib.hid p15
  replace q15 := Lib.hid q15
  replace o15 := Lib.hid o15
  replace n15 := Lib.hid n15
  go_wp2_with fail
  refine c16.out.mono ?_
  rintro e v16 ⟨rfl, r16, z16⟩
  have y16 := g15.out.call (s' := s16) r16 z16
  obtain ⟨nm16, nl16⟩ := y16.num
  have p16 := z16.row p15.out (fun k hk e => by have := (p15.out.lt k hk).1; omega)
  have q16 := z16.row q15.out (fun k hk e => by have := (q15.out.lt k hk).1; omega)
  have o16 := z16.row o15.out (fun k hk e => by have := (o15.out.lt k hk).1; omega)
  have n16 := n15.out.chg z16 (fun p hp k hk e => by have := (n15.out.lt p hp k hk).1; omega)
  clear c16 r16 z16 g15 p15 q15 o15 n15 nm15 nl15
  as_aux_lemma =>
  replace y16 := Lib.hid y16
  replace p16 := Lib.hid p16
  replace q16 := Lib.hid q16
  replace o16 := Lib.hid o16
  replace n16 := Lib.hid n16
  obtain ⟨id, jd0, jz0, jz1, jz2⟩ := info_parts infoDir
  obtain ⟨Q3, hQ3⟩ : ∃ q, q = qmany qdir k16 s16 := ⟨_, rfl⟩
  replace hQ3 := Lib.hid hQ3
  go_upto_block 4 with fail
  go_cut [14] (fun nv wr => ∃ (vY : Value), GS w wr #[.int .i64 (k1 : Int), .int .i64 (k2 : Int), .int .i64 (k3 : Int), .int .i64 (k4 : Int), .string (mk k5), .bool ((k6 : Int) == 1), .string (mk k7), .string (mk k8), .int .i64 (k9 : Int), .int .i64 (k10 : Int), .slice aP k11.length cP, .slice aQ x13.length cQ, .slice aX pX.length cX, vY] Q3.2 ∧ Chg (fun k => k = w.heap.size + 1 ∨ k = w.heap.size + 1 + 1 + 1 + 1) v16 wr ∧ wr.ownsRow v16.heap.size 84 2 vY Q3.1.length (dircells Q3.1))
  case first => as_aux_lemma =>
    go_wp2_with fail
    go_loopg [14] k16 (fun g nv wr => ∃ (k : Nat) (s' : Rs) (dn : List (Int × Int)) (vY : Value), g = k ∧ nv = .int .i64 k ∧ Aside (Q3 = (dn ++ (qmany qdir k s').1, (qmany qdir k s').2) ∧ dn.length + k ≤ 65535 ∧ GS w wr #[.int .i64 (k1 : Int), .int .i64 (k2 : Int), .int .i64 (k3 : Int), .int .i64 (k4 : Int), .string (mk k5), .bool ((k6 : Int) == 1), .string (mk k7), .string (mk k8), .int .i64 (k9 : Int), .int .i64 (k10 : Int), .slice aP k11.length cP, .slice aQ x13.length cQ, .slice aX pX.length cX, vY] s' ∧ Chg (fun k => k = w.heap.size + 1 ∨ k = w.heap.size + 1 + 1 + 1 + 1) v16 wr ∧ wr.ownsRow v16.heap.size 84 2 vY dn.length (dircells dn)))
    case atStart => exact ⟨k16, s16, [], .slice none 0 0, rfl, rfl, by rw [hQ3.out]; simp, by simp; omega, y16.out, Chg.refl _ _, World.ownsRow_nil _ _ _ _⟩
    case round =>
    obtain ⟨k, s', dn, vY, hgk, rfl, hI⟩ := hrel
    obtain ⟨i1, i2, i3, i4, i5⟩ := hI.out
    obtain ⟨av, lv, cv, rfl, hlv⟩ := own_form i5
    subst lv
    clear hI
    obtain ⟨f1, f3⟩ := i3.num
    have f2 : wr.cell? ⟨w.heap.size + 1 + 1, 0, none⟩ = some (.pointer (some ⟨w.heap.size + 1, 0, none⟩)) := cell_of (i := 0) i3.rcc rfl
    have cB := g_bad i3.rd
    cases k with
    | zero =>
      have hfin : Q3 = (dn, s') := by rw [i1]; simp [qmany]
      replace hfin := Lib.hid hfin
      replace i3 := Lib.hid i3
      replace i4 := Lib.hid i4
      replace i5 := Lib.hid i5
      clear i1 cB
      go_wp2_with fail
      go_meet
      rw [hfin.out]
      exact ⟨_, i3.out, i4.out, i5.out⟩
    | succ k =>
      have hpos : (0 : Int) < ((k + 1 : Nat) : Int) := by omega
      cases hb : s'.2 with
      | true =>
        have hfin : Q3 = (dn, s') := by rw [i1]; simp [qmany, hb]
        rw [hb] at cB
        replace cB := Lib.hid cB
        replace hfin := Lib.hid hfin
        replace hb := Lib.hid hb
        replace i3 := Lib.hid i3
        replace i4 := Lib.hid i4
        replace i5 := Lib.hid i5
        clear i1
        go_wp2_with fail
        refine cB.out.mono ?_
        rintro e w' ⟨rfl, rfl⟩
        go_wp2_with fail
        go_meet
        rw [hfin.out]
        exact ⟨_, i3.out, i4.out, i5.out⟩
      | false =>
        have hnx : Q3 = ((dn ++ [(qdir s').1]) ++ (qmany qdir k (qdir s').2).1, (qmany qdir k (qdir s').2).2) := by rw [i1]; simp [qmany, hb]
        rw [hb] at cB
        replace cB := Lib.hid cB
        replace hnx := Lib.hid hnx
        replace hb := Lib.hid hb
        have c21 := g_num i3.rd
        obtain ⟨⟨m1, t21⟩, d21⟩ : ∃ q, q = q2 s' := ⟨_, rfl⟩
        rw [← d21] at c21
        simp only at c21
        replace c21 := Lib.hid c21
        replace d21 := Lib.hid d21
        replace i4 := Lib.hid i4
        replace i5 := Lib.hid i5
        replace i3 := Lib.hid i3
        clear i1
        go_wp2_with fail
        refine cB.out.mono ?_
        rintro e w' ⟨rfl, rfl⟩
        go_wp2_with fail
        refine c21.out.mono ?_
        rintro e u21 ⟨rfl, r21, z21⟩
        have y21 := i3.out.call (s' := t21) r21 z21
        have q0 := qs_start y21 #[.int .i64 (m1 : Int), .int .i64 0] 84
        have hpl := q0.lt
        obtain ⟨nm20, nl20⟩ := q0.num
        have i4b := i4.out.trans (z21.mono (T := fun k => k = w.heap.size + 1 ∨ k = w.heap.size + 1 + 1 + 1 + 1) (fun k _ e => .inl e)) (fun _ _ e => e)
        have i5b := z21.row i5.out (fun k hk e => by have := (i5.out.lt k hk).1; omega)
        clear c21 r21 z21 y21 i3 i4 i5 f1 f2 f3
        as_aux_lemma =>
        replace i4b := Lib.hid i4b
        replace i5b := Lib.hid i5b
        have c22 := g_long q0.gs.rd
        obtain ⟨⟨m2, t22⟩, d22⟩ : ∃ q, q = q4 t21 := ⟨_, rfl⟩
        rw [← d22] at c22
        simp only at c22
        replace c22 := Lib.hid c22
        replace d22 := Lib.hid d22
        replace q0 := Lib.hid q0
        go_wp2_with fail
        refine c22.out.mono ?_
        rintro e u22 ⟨rfl, r22, z22⟩
        have y22 := q0.out.call (s' := t22) r22 z22
        obtain ⟨nm22, nl22⟩ := y22.num
        obtain ⟨pc22, pf22⟩ := y22.cell 1 rfl
        clear nm20
        have q3 := y22.set 1 (.int .i64 (m2 : Int)) (ds' := #[.int .i64 (m1 : Int), .int .i64 (m2 : Int)]) rfl
        clear c22 r22 z22 y22 q0
        as_aux_lemma =>
        replace q3 := Lib.hid q3
        go_upto_region 37 with fail
        have hq : qdir s' = (((m1 : Int), (m2 : Int)), t22) := by have a1 := d21.out; have a2 := d22.out; simp only [qdir, ← a1, ← a2]
        have hnx2 := hnx.out
        rw [hq] at hnx2
        simp only at hnx2
        replace hnx2 := Lib.hid hnx2
        clear hnx hq d21 d22
        have xq : (u22.setCell ⟨u21.heap.size, 1, none⟩ (.int .i64 (m2 : Int))).cell? ⟨w.heap.size + 1 + 1 + 1 + 1, 13, none⟩ = some (.slice av dn.length cv) := (q3.out.gs.cell 13 rfl).1
        have pq0 : (u22.setCell ⟨u21.heap.size, 1, none⟩ (.int .i64 (m2 : Int))).cell? ⟨u21.heap.size, 0, none⟩ = some (.int .i64 (m1 : Int)) := (q3.out.cell 0 rfl).1
        have pq1 : (u22.setCell ⟨u21.heap.size, 1, none⟩ (.int .i64 (m2 : Int))).cell? ⟨u21.heap.size, 1, none⟩ = some (.int .i64 (m2 : Int)) := (q3.out.cell 1 rfl).1
        have hx3 := q3.out.gs.xc
        have hl3 := q3.out.ch.size
        have hlv := i4b.out.size
        have o3 := q3.out.ch.row i5b.out (fun k hk e => by have := (i5b.out.lt k hk).1; omega)
        clear nm22 pc22 pf22 nl22
        generalize u22.setCell ⟨u21.heap.size, 1, none⟩ (Value.int .i64 (m2 : Int)) = wE at q3 o3 xq pq0 pq1 hl3 hx3 ⊢
        replace hx3 := Lib.hid hx3
        replace o3 := Lib.hid o3
        go_wp2_with (at_builtin; refine wpList_append_own' rfl (.tmp 139) (.tmp 141) 35 rfl v16.heap.size 84 id (.agg #[.int .i64 0, .int .i64 0]) 2 16 Tryd.underlying35 jd0 jz0 jz1 jz2 rfl (by decide) _ _ _ rfl (o3.out.alloc _) ⟨wE.heap.size, 0, none⟩ 1 1 (dircells [((m1 : Int), (m2 : Int))]) rfl rfl (new_both _ rfl) (by intro u hu; simp [dircells] at hu; rcases hu with rfl | rfl <;> rfl) (by unfold maxLen; omega) (by omega) (by simp; omega) ?_; intro v6 w6 hown6 hgrow6 hrow6; have hc6 : Chg (fun j => (Value.slice av dn.length cv).ownBlock = some j) wE w6 := ((Chg.refl _ wE).alloc _).grown hgrow6 (fun j _ e => e); obtain ⟨a6, l6, c6, rfl, hl6⟩ := own_form hown6; subst hl6; have hx6 := hc6.heap hx3.out (fun e => by have := (o3.out.lt _ e).1; omega); have xc6 : w6.cell? ⟨w.heap.size + 1 + 1 + 1 + 1, 13, none⟩ = some (.slice av dn.length cv) := cell_of hx6 rfl; have xf6 := free_of (i := 13) hx6; have g6 := q3.out.gs.row hc6 (fun k e => by have := (o3.out.lt k e).1; omega); replace hc6 := Lib.hid hc6; replace g6 := Lib.hid g6; replace hown6 := Lib.hid hown6; clear hgrow6 hrow6 hx6)
        have c7 := (i4b.out.trans (q3.out.ch.mono (T := fun k => k = w.heap.size + 1 ∨ k = w.heap.size + 1 + 1 + 1 + 1) (fun k _ e => .inl e)) (fun _ _ e => e)).trans hc6.out (fun j hj e => by have := (o3.out.lt j e).1; omega)
        have c8 := c7.setCell (a := ⟨w.heap.size + 1 + 1 + 1 + 1, 13, none⟩) (fun _ => .inr rfl) (.slice a6 (dn.length + 1) c6)
        have o8 := (Chg.setCell (a := ⟨w.heap.size + 1 + 1 + 1 + 1, 13, none⟩) (S := fun k => k = w.heap.size + 1 + 1 + 1 + 1) (Chg.refl _ w6) (fun _ => rfl) (.slice a6 (dn.length + 1) c6)).row hown6.out (fun k hk e => by have := (hown6.out.lt k hk).1; omega)
        go_roundg k
        case rel => exact ⟨k, t22, dn ++ [((m1 : Int), (m2 : Int))], .slice a6 (dn.length + 1) c6, rfl, by first | rfl | go_num, hnx2.out, by simp; omega, g6.out.set 13 _ rfl, c8, by rw [List.length_append, dircells_append]; exact o8⟩
        case measure => omega
  case rest =>
  obtain ⟨vY, g17, h17, o17⟩ := hcut
  obtain ⟨aY, lY, cY, rfl, hlY⟩ := own_form o17
  subst lY
  obtain ⟨x17, s17⟩ := Q3
  simp only at g17
  have hb17 := h17.size
  have p17 := h17.row p16.out (fun k hk e => by have := (p16.out.lt k hk).1; omega)
  have q17 := h17.row q16.out (fun k hk e => by have := (q16.out.lt k hk).1; omega)
  have t17 := h17.row o16.out (fun k hk e => by have := (o16.out.lt k hk).1; omega)
  have n17 := n16.out.chg h17 (fun p hp k hk e => by have := (n16.out.lt p hp k hk).1; omega)
  have hP := parsed_of e1.out e2.out e3.out e4.out e5.out e6.out e7.out e8.out e9.out e10.out e11.out e12.out hQ1.out e14.out hQ2.out e16.out hQ3.out
  obtain ⟨T, hTx⟩ : ∃ T, T = pX.map (·.1) := ⟨_, rfl⟩
  have hlen : pX.length = T.length := by rw [hTx, List.length_map]
  rw [← hTx] at hP
  rw [hlen] at g17
  have nF : Inner wc (w.heap.size + 1 + 1 + 1 + 1 + 1) (.slice aX pX.length cX) pX := inner_base n17 (by omega)
  have tF : wc.ownsRow (w.heap.size + 1 + 1 + 1 + 1 + 1) 79 4 (.slice aX pX.length cX) pX.length (txcells pX) := row_base t17 (by omega)
  have oF : wc.ownsRow (w.heap.size + 1 + 1 + 1 + 1 + 1) 84 2 (.slice aY x17.length cY) x17.length (dircells x17) := row_base o17 (by omega)
  rw [hlen] at nF
  rename_i Kx hKx
  refine hKx _ _ (get_tail b w wc hT ⟨k1, k2, k3, k4, k5, (k6 : Int) == 1, ⟨k7, k8, k9, k10⟩, k11, x13, T, x17⟩ s17 aP aQ aX aY cP cQ cX cY _ _ _ _ _ _ _ _ _ _ _ _ _ _ _ _ _ _ _ _ _ _ _ _ _ _ _ _ _ _ _ _ _ _ _ _ _ _ _ _ _ _ _ _ _ _ _ _ _ _ _ _ _ _ _ _ _ _ _ _ _ _ _ _ _ _ _ _ _ _ _ _ _ _ _ _ _ _ _ _ _ _ _ _ _ _ _ _ _ _ _ _ _ _ _ _ _ _ _ _ _ _ _ _ _ _ _ _ _ _ _ _ _ _ _ _ _ _ _ _ _ _ _ _ _ _ _ _ _ _ _ _ _ _ _ _ _ _ _ _ _ _ _ _ _ _ _ _ _ _ _ _ _ _ _ _ _ g17 ⟨rfl, p17, q17, ⟨pX, hTx.symm, ?_, nF⟩, oF⟩ hP)
  rw [← hlen]
  exact tF
end Go.Proofs.YtofejnhnnmnfpaaDoor.Rc
