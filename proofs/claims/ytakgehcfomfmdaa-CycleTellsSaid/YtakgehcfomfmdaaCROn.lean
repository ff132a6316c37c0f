/- Who is on a cycle with one, by the document. No condition. -/
import Derived.Test.YtakgehcfomfmdaaCRf
import Derived.Test.YtakgehcfomfmdaaCRn
namespace Go.Proofs.Ytakgehcfomfmdaa
open Go.RowKit

/-- What a search answers, beside what was there. -/
def RA (w0 w w' : World) (a : Option Addr) (E F : List (Int × Int)) (s : Int) (v : Value) (acc : List Int) : Prop :=
  w'.ownsRow w.heap.size 3 1 v acc.length (icells acc) ∧ acc.Nodup ∧ (∀ x, x ∈ acc ↔ Rt F s x) ∧ IWf acc ∧ acc.length ≤ E.length ∧ Below w.heap.size w w' ∧ w0.heap.size ≤ w.heap.size
theorem ron_A {w0 w : World} {a : Option Addr} {c : Nat} {E : List (Int × Int)} {s : Int} (hl : E.length ≤ 100000) (hs : (Lit.int .i64 s).wf = true) (h : Hid (PAt w a E ∧ Below w0.heap.size w0 w)) :
    Calls Try.prog 26 #[.int .i64 s, .slice a E.length c, .bool false] w fun e w' => ∃ (v : Value) (acc : List Int), e = .returned v ∧ Hid (PAt w' a E ∧ Below w0.heap.size w0 w') ∧ Hid (RA w0 w w' a E E s v acc) :=
  (rreach_ahead a c E E rfl s w h.out.1 hl hs).mono fun _ _ ⟨v, acc, he, h1, h2, h3, h4, h5, hb⟩ => ⟨v, acc, he, Lib.hid ⟨h.out.1.more hb, h.out.2.trans (hb.mono h.out.2.size)⟩, Lib.hid ⟨h1, h2, h3, h4, h5, hb, h.out.2.size⟩⟩
theorem ron_B {w0 w : World} {a : Option Addr} {c : Nat} {E : List (Int × Int)} {s : Int} (hl : E.length ≤ 100000) (hs : (Lit.int .i64 s).wf = true) (h : Hid (PAt w a E ∧ Below w0.heap.size w0 w)) :
    Calls Try.prog 26 #[.int .i64 s, .slice a E.length c, .bool true] w fun e w' => ∃ (v : Value) (acc : List Int), e = .returned v ∧ Hid (PAt w' a E ∧ Below w0.heap.size w0 w') ∧ Hid (RA w0 w w' a E (rev E) s v acc) :=
  (rreach_behind a c E (rev E) rfl s w h.out.1 hl hs).mono fun _ _ ⟨v, acc, he, h1, h2, h3, h4, h5, hb⟩ => ⟨v, acc, he, Lib.hid ⟨h.out.1.more hb, h.out.2.trans (hb.mono h.out.2.size)⟩, Lib.hid ⟨h1, h2, h3, h4, h5, hb, h.out.2.size⟩⟩

set_option maxRecDepth 100000 in
set_option maxHeartbeats 3200000 in
theorem ron_any (a : Option Addr) (c : Nat) (E : List (Int × Int)) (s : Int) (w : World) (hE : PAt w a E) (hl : E.length ≤ 1000) (hs : (Lit.int .i64 s).wf = true) :
    Calls Try.prog 14 #[.int .i64 s, .slice a E.length c] w fun e w' => ∃ (v : Value) (l : List Int), e = .returned v ∧ OnL E s l ∧ w'.ownsRow w.heap.size 3 1 v l.length (icells l) ∧ l.length ≤ 1000000 ∧ Below w.heap.size w w' := by
  obtain ⟨ii, hi0, hz0, hz1, hz2⟩ := info_parts infoInt
  have hl5 : E.length ≤ 100000 := by omega
  go_enter Try.func14, Try.ntmps14
  go_wp2_with fail
  refine (rreach_ahead a c E E rfl s w hE hl5 hs).mono ?_
  rintro e wA ⟨vA, A, rfl, oA, nA, mA, _, lA, hbA⟩
  go_wp2_with fail
  refine (rreach_behind a c E (rev E) rfl s wA (hE.more hbA) hl5 hs).mono ?_
  rintro e w1 ⟨vB, B, rfl, oB, nB, mB, _, lB, hbB⟩
  have hb1 := Lib.hid (hbA.trans (hbB.mono hbA.size))
  have hiA := (Chg.of_below (S := fun _ => False) hbB).row oA (fun _ _ => id)
  obtain ⟨aA, cA, rfl, iA⟩ := IAt.own hiA
  obtain ⟨aB, cB, rfl, iB⟩ := IAt.own oB
  replace iA := Lib.hid iA
  replace iB := Lib.hid iB
  replace mA := Lib.hid mA
  replace mB := Lib.hid mB
  obtain ⟨nb, hnb⟩ : ∃ nb, nb = B.length := ⟨_, rfl⟩
  obtain ⟨na, hna⟩ : ∃ na, na = A.length := ⟨_, rfl⟩
  have hprod : na * nb ≤ 1000 * 1000 := Nat.mul_le_mul (by omega) (by omega)
  rw [← hna, ← hnb]
  replace hprod := Lib.hid hprod
  clear hiA oA oB hbA hbB nA nB
  go_wp2
  go_loopw [7, 8, 9] (fun vo i _ wr => ∃ (p : Nat) (out : List Int), p ≤ na ∧ i = .int .i64 p ∧ Aside (out.length ≤ p * nb ∧ wr.ownsRow w1.heap.size 3 1 vo out.length (icells out) ∧ (∀ x, x ∈ out ↔ x ∈ A.take p ∧ x ∈ B) ∧ Below w1.heap.size w1 wr)) (fun _ i _ _ => na - (intOf i).toNat)
  case atStart => exact ⟨0, [], Nat.zero_le _, rfl, by simp, World.ownsRow_nil _ _ _ _, fun x => by simp, Below.refl _ _⟩
  case round =>
    obtain ⟨p, out, hp, rfl, hI⟩ := hrel
    by_cases hpl : p < na
    · have hpA : p < A.length := by omega
      obtain ⟨bA, oA, rfl, hcA⟩ := iA.out p hpA
      obtain ⟨x, hx⟩ : ∃ x, x = A[p] := ⟨_, rfl⟩
      rw [← hx] at hcA
      have hpk : (p : Int) < na := by omega
      have htk : A.take (p + 1) = A.take p ++ [x] := by rw [hx]; exact List.take_succ_eq_append_getElem hpA
      have hbnd : p * nb + nb ≤ 1000 * 1000 := by
        have h1 := Nat.mul_le_mul_right nb (show p + 1 ≤ na by omega)
        rw [Nat.succ_mul] at h1
        exact Nat.le_trans h1 hprod.out
      obtain ⟨pb, hpb⟩ : ∃ pb, pb = p * nb := ⟨_, rfl⟩
      have hpb1 : (p + 1) * nb = pb + nb := by rw [hpb, Nat.succ_mul]
      rw [← hpb] at hbnd hI
      replace hI := Lib.hid hI.out
      replace hpb1 := Lib.hid hpb1
      replace htk := Lib.hid htk
      clear hx hpb
      go_wp2
      go_loopw [7, 9] (fun vo k wr2 => ∃ (q : Nat) (out2 : List Int), q ≤ nb ∧ k = .int .i64 q ∧ Aside (out2.length ≤ pb + q ∧ wr2.ownsRow w1.heap.size 3 1 vo out2.length (icells out2) ∧ (∀ y, y ∈ out2 ↔ (y ∈ A.take p ∧ y ∈ B) ∨ (y = x ∧ y ∈ B.take q)) ∧ Below w1.heap.size w1 wr2)) (fun _ k _ => nb - (intOf k).toNat)
      case atStart => exact ⟨0, out, Nat.zero_le _, rfl, hI.out.1, hI.out.2.1, fun y => by rw [hI.out.2.2.1 y]; simp, hI.out.2.2.2⟩
      case round =>
        obtain ⟨q, out2, hq, rfl, hI2⟩ := hrel
        obtain ⟨h1, h2, h3, h4⟩ := hI2.out
        by_cases hql : q < nb
        · have hqB : q < B.length := by omega
          obtain ⟨bB, oB, rfl, hcB⟩ := iB.out q hqB
          obtain ⟨y, hy⟩ : ∃ y, y = B[q] := ⟨_, rfl⟩
          rw [← hy] at hcB
          have htq : B.take (q + 1) = B.take q ++ [y] := by rw [hy]; exact List.take_succ_eq_append_getElem hqB
          have hqk : (q : Int) < nb := by omega
          have hcA2 := cell_more h4 hcA
          have hcB2 := cell_more h4 hcB
          obtain ⟨ao, mo, co, rfl, emo⟩ := own_form h2
          obtain ⟨no, hno⟩ : ∃ no, no = out2.length := ⟨_, rfl⟩
          rw [← hno] at h1 h2 emo
          subst emo
          have ho := Lib.hid h2
          have hb := Lib.hid h4
          replace h3 := Lib.hid h3
          replace htq := Lib.hid htq
          replace hno := Lib.hid hno
          clear hI2 hy h2 h4 hcA hcB
          by_cases hxy : x = y
          · have hm : ∀ z, z ∈ out2 ++ [x] ↔ (z ∈ A.take p ∧ z ∈ B) ∨ (z = x ∧ z ∈ B.take (q + 1)) := fun z => by
              rw [htq.out, List.mem_append, List.mem_append, List.mem_singleton, List.mem_singleton, h3.out z, ← hxy, and_or_left, and_self, or_assoc]
            have hbq : (x == y) = true := by rw [hxy]; exact beq_self_eq_true y
            replace hm := Lib.hid hm
            replace hxy := Lib.hid hxy
            go_wp2
            go_quiet (fail)
            go_wp2_with (at_builtin; refine wpList_append_rd rfl _ _ 25 rfl w1.heap.size 3 ii (.int .i64 0) 1 8 Try.underlying25 hi0 hz0 hz1 hz2 rfl (by decide) _ mo (icells out2) rfl ((ownsRow_drewN ho.out nq).alloc _) _ 1 [.int .i64 x] rfl rfl (by go_simp; exact RdAt.new1 _ rfl) (by intro u hu; rw [List.mem_singleton.1 hu]; rfl) (by unfold maxLen; omega) (by omega) (by have := hb.out.size; simp; omega) ?_; intro v5 w5 hp5; have hb5 := Lib.hid (grow_own (w := w1) (ownsRow_drewN ho.out nq) (bk_drewN hb.out nq) hp5); have ho5 := hp5.1; have ho6 : w5.ownsRow w1.heap.size 3 1 v5 (out2 ++ [x]).length (icells (out2 ++ [x])) := by { rw [icells_append, List.length_append, ← hno.out]; exact ho5 }; replace ho6 := Lib.hid ho6; clear hp5 ho5)
            go_roundw
            case rel => exact ⟨q + 1, out2 ++ [x], hql, by go_num, by rw [List.length_append, ← hno.out]; simp; omega, ho6.out, hm.out, hb5.out⟩
            case measure => simp [intOf]; omega
          · have hm : ∀ z, z ∈ out2 ↔ (z ∈ A.take p ∧ z ∈ B) ∨ (z = x ∧ z ∈ B.take (q + 1)) := fun z => by
              rw [htq.out, List.mem_append, List.mem_singleton, h3.out z]
              constructor
              · rintro (h | ⟨h, h'⟩)
                · exact .inl h
                · exact .inr ⟨h, .inl h'⟩
              · rintro (h | ⟨h, h' | h'⟩)
                · exact .inl h
                · exact .inr ⟨h, h'⟩
                · exact absurd (h.symm.trans h') hxy
            have hbq : (x == y) = false := beq_eq_false_iff_ne.2 hxy
            replace hm := Lib.hid hm
            replace hxy := Lib.hid hxy
            go_wp2
            go_quiet (fail)
            go_wp2
            go_roundw
            case rel => exact ⟨q + 1, out2, hql, by go_num, by rw [← hno.out]; omega, by rw [← hno.out]; exact ownsRow_drewN ho.out _, hm.out, bk_drewN hb.out _⟩
            case measure => simp [intOf]; omega
        · obtain rfl : q = nb := by omega
          have hm : ∀ z, z ∈ out2 ↔ z ∈ A.take (p + 1) ∧ z ∈ B := fun z => by
            rw [h3 z, htk.out, List.mem_append, List.mem_singleton, hnb, List.take_length]
            exact ⟨fun h => h.elim (fun h => ⟨.inl h.1, h.2⟩) (fun h => ⟨.inr h.1, h.2⟩), fun h => h.1.elim (fun h' => .inl ⟨h', h.2⟩) (fun h' => .inr ⟨h', h.2⟩)⟩
          replace hm := Lib.hid hm
          go_wp2
          go_roundw
          case rel => exact ⟨p + 1, out2, hpl, by go_num, by rw [hpb1.out]; exact h1, h2, hm.out, h4⟩
          case measure => simp [intOf]; omega
    · obtain rfl : p = na := by omega
      obtain ⟨h1, h2, h3, h4⟩ := hI.out
      have hle : out.length ≤ 1000000 := Nat.le_trans h1 hprod.out
      rw [hna, List.take_length] at h3
      have hr := RdAt.own h2
      obtain ⟨ao, mo, co, rfl, rfl⟩ := own_form h2
      replace h3 := Lib.hid h3
      replace h4 := Lib.hid h4
      clear hI h1 h2
      go_wp2_with fail
      refine (rising_any (.slice ao out.length co) out _ hr hle).mono ?_
      rintro e w9 ⟨v9, l9, rfl, o9, r9, m9, hb9⟩
      have hon : OnL E s l9 := ⟨r9, fun x => by rw [m9 x, h3.out x, mA.out x, mB.out x, rt_rev]⟩
      have hln : l9.length ≤ 1000000 := Nat.le_trans (nodup_len l9 out (r9.imp (fun h => by omega)) (fun x hx => (m9 x).1 hx)) hle
      have ho9 := o9.mono (base' := w.heap.size) (by have := hb1.out.size; have := h4.out.size; omega)
      have hb9' := Lib.hid ((hb1.out.trans (h4.out.mono hb1.out.size)).trans (hb9.mono (by have := hb1.out.size; have := h4.out.size; omega)))
      replace hon := Lib.hid hon
      replace ho9 := Lib.hid ho9
      clear r9 m9 o9 hb9
      go_wp2
      go_ret
      exact ⟨_, l9, rfl, hon.out, ho9.out, hln, hb9'.out⟩
end Go.Proofs.Ytakgehcfomfmdaa
