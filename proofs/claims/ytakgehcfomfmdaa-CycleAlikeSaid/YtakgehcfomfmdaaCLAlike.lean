/- The walk of the law CycleAlike. No condition. -/
import Derived.Test.YtakgehcfomfmdaaCAlive
import Derived.Test.YtakgehcfomfmdaaCOpen
import Derived.Deep.LoopGhost
namespace Go.Proofs.Ytakgehcfomfmdaa
open Go.RowKit

theorem OnL.alike {E : List (Int × Int)} {s x : Int} {l : List Int} (h : OnL E s l) (hx : x ∈ l) : OnL E x l := by
  obtain ⟨h1, h2⟩ := (h.mem x).1 hx
  refine ⟨h.rise, fun z => (h.mem z).trans ⟨fun ⟨a, b⟩ => ⟨h2.trans a, b.trans h1⟩, fun ⟨a, b⟩ => ⟨h1.trans a, b.trans h2⟩⟩⟩
theorem OnL.self {E : List (Int × Int)} {s : Int} {l : List Int} (h : OnL E s l) (hne : l ≠ []) : s ∈ l := (h.mem s).2 ⟨(onl_some h).1 hne, (onl_some h).1 hne⟩
set_option maxRecDepth 100000 in
set_option maxHeartbeats 1600000 in
theorem cycleAlike_walk (s : Int) (v : Value) (E : List (Int × Int)) (w : World) (hs : (Lit.int .i64 s).wf = true) (hv : IsPairs w v E) :
    Calls Try.prog 6 #[.int .i64 s, v] w fun e w' => e = .returned (.bool true) ∧ Below w.heap.size w w' := by
  obtain ⟨a, c, rfl, hE, hlen⟩ := hv
  by_cases d1 : 40 < (E.length : Int)
  · go_enter Try.func6, Try.ntmps6
    go_wp2_with fail
    refine (alive_true _).mono ?_
    rintro e w2 ⟨rfl, h2⟩
    go_wp2
    go_ret
    exact ⟨rfl, h2⟩
  go_enter Try.func6, Try.ntmps6
  go_wp2_with fail
  refine (alive_true _).mono ?_
  rintro e w1 ⟨rfl, h1⟩
  have hE1 := Lib.hid (hE.more h1)
  have b1 := Lib.hid h1
  clear h1
  go_wp2_with fail
  refine (on_any a c E s _ hE1.out (by omega) hs).mono ?_
  rintro e w2 ⟨v2, l, rfl, hL, ho, hwf, hll, h2⟩
  obtain ⟨a2, c2, rfl, i2⟩ := IAt.own ho
  have hE2 := Lib.hid (hE1.out.more h2)
  have b2 := Lib.hid (b1.out.trans (h2.mono b1.out.size))
  replace i2 := Lib.hid i2
  replace hL := Lib.hid hL
  replace hwf := Lib.hid hwf
  clear ho h2 hE1 b1 hE
  go_wp2
  go_loopg [25, 6] (l.length) (fun g i vb wr => ∃ (k : Nat) (bI : Bool), g + k = l.length ∧ i = .int .i64 k ∧ vb = .bool bI ∧ Aside ((bI = true ↔ l = [] ∨ s ∈ l.take k) ∧ Below w.heap.size w wr ∧ Below w2.heap.size w2 wr))
  case atStart => exact ⟨0, ((l.length : Int) == 0), rfl, rfl, rfl, by simp, b2.out, Below.refl _ _⟩
  case round =>
    obtain ⟨k, bI, hg, rfl, rfl, hA⟩ := hrel
    by_cases hlt : k < l.length
    · obtain ⟨b, o, rfl, hc⟩ := i2.out k hlt
      have htk : l.take (k + 1) = l.take k ++ [l[k]] := List.take_succ_eq_append_getElem hlt
      have hmem : l[k] ∈ l := List.getElem_mem hlt
      obtain ⟨x, hx⟩ : ∃ x, x = l[k] := ⟨_, rfl⟩
      rw [← hx] at hc htk hmem
      have hxw := hwf.out x hmem
      have hLx := Lib.hid (hL.out.alike hmem)
      have hb := hA.out.2.2
      have hc2 := cell_more hb hc
      have i3 := Lib.hid (i2.out.more hb)
      have hEr := Lib.hid (hE2.out.more hb)
      replace hx := Lib.hid hx
      replace htk := Lib.hid htk
      clear hc hmem hb
      have fin : ∀ (bJ : Bool), (bJ = true ↔ bI = true ∨ x = s) → (bJ = true ↔ l = [] ∨ s ∈ l.take (k + 1)) := by
        intro bJ hJ
        rw [hJ, hA.out.1, htk.out]
        simp only [List.mem_append, List.mem_singleton]
        constructor
        · rintro ((h | h) | h)
          · exact .inl h
          · exact .inr (.inl h)
          · exact .inr (.inr h.symm)
        · rintro (h | h | h)
          · exact .inl (.inl h)
          · exact .inl (.inr h)
          · exact .inr h.symm
      replace fin := Lib.hid fin
      rcases (show bI = true ∨ (bI = false ∧ x = s) ∨ (bI = false ∧ x ≠ s) by by_cases e : x = s <;> cases bI <;> simp [e]) with hb1 | ⟨hb1, hb2⟩ | ⟨hb1, hb2⟩
      · have hJ := Lib.hid (fin.out true (by simp [hb1]))
        have hbb := hA.out.2
        subst hb1
        replace hbb := Lib.hid hbb
        clear hA fin
        go_wp2_with fail
        refine (on_any _ c E x _ hEr.out (by omega) hxw).mono ?_
        rintro e w3 ⟨v3, l3, rfl, hL3, ho3, _, _, h3⟩
        obtain rfl := hL3.uniq hLx.out
        obtain ⟨a3, c3, rfl, i4⟩ := IAt.own ho3
        have i5 := i3.out.more h3
        have hb3 := Lib.hid (show Below w.heap.size w w3 ∧ Below w2.heap.size w2 w3 from ⟨hbb.out.1.trans (h3.mono hbb.out.1.size), hbb.out.2.trans (h3.mono hbb.out.2.size)⟩)
        clear ho3 h3 hL3
        go_wp2_with fail
        refine (same_yes a3 _ c3 c2 l3 _ i4 i5 (by omega)).mono ?_
        rintro e w4 ⟨rfl, h4⟩
        go_wp2
        go_roundg (l3.length - (k + 1))
        case measure => omega
        case rel => exact ⟨k + 1, true, by omega, by go_num, rfl, by have := hJ.out; simpa using this, hb3.out.1.trans (h4.mono hb3.out.1.size), hb3.out.2.trans (h4.mono hb3.out.2.size)⟩
      · have hJ := Lib.hid (fin.out true (by simp [hb2]))
        have hbb := hA.out.2
        subst hb1
        subst hb2
        replace hbb := Lib.hid hbb
        clear hA fin
        go_wp2_with fail
        refine (on_any _ c E x _ hEr.out (by omega) hxw).mono ?_
        rintro e w3 ⟨v3, l3, rfl, hL3, ho3, _, _, h3⟩
        obtain rfl := hL3.uniq hLx.out
        obtain ⟨a3, c3, rfl, i4⟩ := IAt.own ho3
        have i5 := i3.out.more h3
        have hb3 := Lib.hid (show Below w.heap.size w w3 ∧ Below w2.heap.size w2 w3 from ⟨hbb.out.1.trans (h3.mono hbb.out.1.size), hbb.out.2.trans (h3.mono hbb.out.2.size)⟩)
        clear ho3 h3 hL3
        go_wp2_with fail
        refine (same_yes a3 _ c3 c2 l3 _ i4 i5 (by omega)).mono ?_
        rintro e w4 ⟨rfl, h4⟩
        go_wp2
        go_roundg (l3.length - (k + 1))
        case measure => omega
        case rel => exact ⟨k + 1, true, by omega, by go_num, rfl, by have := hJ.out; simpa using this, hb3.out.1.trans (h4.mono hb3.out.1.size), hb3.out.2.trans (h4.mono hb3.out.2.size)⟩
      · have hJ := Lib.hid (fin.out false (by simp [hb1, hb2]))
        have hbb := hA.out.2
        have hxs : (x == s) = false := by rw [beq_eq_false_iff_ne]; exact hb2
        subst hb1
        replace hb2 := Lib.hid hb2
        replace hbb := Lib.hid hbb
        clear hA fin
        go_wp2_with fail
        refine (on_any _ c E x _ hEr.out (by omega) hxw).mono ?_
        rintro e w3 ⟨v3, l3, rfl, hL3, ho3, _, _, h3⟩
        obtain rfl := hL3.uniq hLx.out
        obtain ⟨a3, c3, rfl, i4⟩ := IAt.own ho3
        have i5 := i3.out.more h3
        have hb3 := Lib.hid (show Below w.heap.size w w3 ∧ Below w2.heap.size w2 w3 from ⟨hbb.out.1.trans (h3.mono hbb.out.1.size), hbb.out.2.trans (h3.mono hbb.out.2.size)⟩)
        clear ho3 h3 hL3
        go_wp2_with fail
        refine (same_yes a3 _ c3 c2 l3 _ i4 i5 (by omega)).mono ?_
        rintro e w4 ⟨rfl, h4⟩
        go_wp2
        go_roundg (l3.length - (k + 1))
        case measure => omega
        case rel => exact ⟨k + 1, false, by omega, by go_num, rfl, hJ.out, hb3.out.1.trans (h4.mono hb3.out.1.size), hb3.out.2.trans (h4.mono hb3.out.2.size)⟩
    · obtain rfl : k = l.length := by omega
      have hI : bI = true := by
        rw [hA.out.1, List.take_length]
        by_cases e : l = []
        · exact .inl e
        · exact .inr (hL.out.self e)
      have hb := Lib.hid hA.out.2.1
      subst hI
      clear hA
      go_wp2
      go_ret
      exact ⟨rfl, hb.out⟩
end Go.Proofs.Ytakgehcfomfmdaa
