/- The walk of the law PackTexts. No condition. -/
import Derived.Test.YtfjdnoonediibaaI2
import Derived.Test.YtfjdnoonediibaaP1
import Derived.Test.YtfjdnoonediibaaOpenStrs
namespace Go.Proofs.Ytfjdnoonediibaa
open Go.RowKit

/-- What is wanted of texts: each behind a zero and its length. -/
def texts : List (List UInt8) → List UInt8
  | [] => []
  | s :: r => be 2 s.length ++ s ++ texts r
theorem texts_snoc (l : List (List UInt8)) (s : List UInt8) : texts (l ++ [s]) = texts l ++ (be 2 s.length ++ s) := by
  induction l with
  | nil => simp [texts]
  | cons a l ih => simp [texts, ih]

theorem WIn.alloc {H B : Nat} {w0 w : World} {xs : List UInt8} {b : Bool} (h : WIn H w0 w B xs b) (o : Obj) : WIn H w0 (w.alloc o) B xs b := by
  obtain ⟨row, ha, h1, h2, h3, h4⟩ := h
  exact ⟨row, ha.kept ((Chg.refl (fun _ => False) w).alloc o) (fun h => h) (fun _ _ h => h), h1, h2, h3.alloc h4 o, by simp; omega⟩

set_option maxHeartbeats 1600000 in
theorem packTexts_walk (v : Value) (ss : List ByteArray) (w : World) (hv : IsStrs w v ss) :
    Calls Try.prog 4 #[v] w fun e w' => e = .returned (.bool true) ∧ Below w.heap.size w w' := by
  obtain ⟨a, c, rfl, hc⟩ := hv
  by_cases h1 : 30 < (ss.length : Int)
  · go_enter Try.func4, Try.ntmps4
    go_wp2_with (go_at_call 10; refine (alive_true _).mono ?_; rintro e w1 ⟨rfl, h⟩)
    go_ret
    exact ⟨rfl, h⟩
  have hlen : ss.length ≤ 30 := by omega
  go_enter Try.func4, Try.ntmps4
  go_wp2_with (go_at_call 10; refine (alive_true _).mono ?_; rintro e w1 ⟨rfl, h⟩)
  have hw0 := Lib.hid (WIn.new w1)
  obtain ⟨bs, hbs⟩ : ∃ bs, bs = ss.map (fun s => s.data.toList) := ⟨_, rfl⟩
  have hbl : bs.length = ss.length := by rw [hbs, List.length_map]
  have HBS := Lib.hid hbs
  replace hbl := Lib.hid hbl
  clear hbs
  go_loopw [4, 24] (fun acc i wr => ∃ k : Nat, k ≤ ss.length ∧ i = .int .i64 k ∧ acc = .string (mk (texts (bs.take k))) ∧ WIn w1.heap.size w1 wr w1.heap.size (texts (bs.take k)) false ∧ (∀ s ∈ bs.take k, s.length ≤ 250) ∧ (texts (bs.take k)).length ≤ k * 252) (fun _ i _ => ss.length - (intOf i).toNat)
  case atStart => exact ⟨0, Nat.zero_le _, rfl, rfl, hw0.out, by simp, by simp [texts]⟩
  case round =>
    obtain ⟨k, hk, rfl, rfl, hw, hsm, hlt0⟩ := hrel
    replace hw := Lib.hid hw
    replace hsm := Lib.hid hsm
    by_cases hlt : k < ss.length
    · obtain ⟨b, o, rfl, hcell⟩ := hc k hlt
      have hcell' := (World.cell?_of_block (w := w) ((h.trans (hw.out.was.1.mono h.size)).block b (World.block_lt_of_cell? w _ hcell))).trans hcell
      obtain ⟨s, hs⟩ : ∃ s, s = ss[k] := ⟨_, rfl⟩
      rw [← hs] at hcell'
      have hbk : bs.take (k + 1) = bs.take k ++ [s.data.toList] := by
        rw [List.take_succ_eq_append_getElem (by rw [hbl.out]; exact hlt)]
        congr 2
        simp [HBS.out, hs]
      have hbk' := Lib.hid hbk
      clear hcell hs hbk
      by_cases hbig : 250 < (s.size : Int)
      · go_wp2
        go_ret
        exact ⟨rfl, h.trans (hw.out.was.1.mono h.size)⟩
      · have hsz := size_toList s
        obtain ⟨acc, hacc⟩ : ∃ acc, acc = texts (bs.take k) := ⟨_, rfl⟩
        rw [← hacc] at hw hlt0
        have hq : wtext s.data.toList acc false = (acc ++ be 2 s.data.toList.length ++ s.data.toList, false) := wtext_ok _ _ (by omega)
        have HQ := Lib.hid hq
        rw [← hacc]
        replace hacc := Lib.hid hacc
        clear hq
        go_wp2_with fail
        refine (iText s HQ.out (by omega) hw.out).mono ?_
        rintro e w2 ⟨rfl, h2⟩
        replace h2 := Lib.hid h2
        have hcv : (convert 24 9 (.slice (some ⟨w2.heap.size, 0, none⟩) 1 1)).run Try.prog (w2.alloc (.cells #[.int .u8 (s.size : Int)] 5)) = .ok (.string (mk [UInt8.ofNat s.size])) (w2.alloc (.cells #[.int .u8 (s.size : Int)] 5)) := by
          refine run_convert_bytes_back _ 24 9 5 ⟨w2.heap.size, 0, none⟩ 1 [UInt8.ofNat s.size] Try.underlying24 Try.underlying5 Try.underlying9 ?_
          intro j hj
          have : j = 0 := by simp at hj; exact hj
          subst this
          have e : (s.size : Int) = ((UInt8.ofNat s.size).toNat : Int) := by rw [UInt8.toNat_ofNat']; omega
          rw [Addr.add_lit]
          refine cell_of (heap_alloc_new w2 _) ?_
          simp only [List.getElem_cons_zero, ← e]
          rfl
        have hz1 : (mk [UInt8.ofNat s.size]).size = 1 := rfl
        have hz2 : (mk acc).size ≤ 7600 := by rw [mk_size]; omega
        have hstr : mk acc ++ ((⟨#[0]⟩ : ByteArray) ++ mk [UInt8.ofNat s.size] ++ s) = mk (texts (bs.take (k + 1))) := by
          rw [hbk'.out, texts_snoc, ← hacc.out]
          have e1 : be 2 s.data.toList.length = [0, UInt8.ofNat s.size] := by
            rw [hsz]
            simp only [be]
            have : s.size / 256 ^ 1 = 0 := by omega
            rw [this]
            simp
          rw [e1]
          apply ByteArray.ext
          apply Array.ext'
          simp [mk]
        have hw2 : WIn w1.heap.size w1 (w2.alloc (.cells #[.int .u8 (s.size : Int)] 5)) w1.heap.size (texts (bs.take (k + 1))) false := by
          rw [hbk'.out, texts_snoc, ← hacc.out, ← List.append_assoc]
          exact h2.out.alloc _
        have hl2 : (texts (bs.take (k + 1))).length ≤ (k + 1) * 252 := by
          rw [hbk'.out, texts_snoc, ← hacc.out]
          simp only [List.length_append, be_length]
          omega
        have hall : ∀ s ∈ bs.take (k + 1), s.length ≤ 250 := by
          rw [hbk'.out]
          intro t ht
          rcases List.mem_append.1 ht with ht | ht
          · exact hsm.out t ht
          · rw [List.mem_singleton.1 ht]; omega
        replace hstr := Lib.hid hstr
        replace hw2 := Lib.hid hw2
        replace hall := Lib.hid hall
        replace hl2 := Lib.hid hl2
        go_wp2
        go_roundw
        case rel => exact ⟨k + 1, hlt, by go_num, by rw [hstr.out], hw2.out, hall.out, hl2.out⟩
        case measure => simp [intOf]; omega
    · obtain rfl : k = ss.length := by omega
      rw [List.take_of_length_le (by rw [hbl.out]; exact Nat.le_refl _)] at hw hsm hlt0 ⊢
      clear hw0
      go_wp2_with fail
      refine (iDone hw.out).mono ?_
      rintro e w2 ⟨rfl, rfl⟩
      rw [show dones (texts bs) false = texts bs from rfl]
      go_wp2_with fail
      refine (iFrom (l := texts bs) hw.out.was.1 hw.out.was.2).mono ?_
      rintro e w2 ⟨R, rfl, h2⟩
      replace h2 := Lib.hid h2
      clear hw hlt0
      go_wp2
      go_loopw [65] (fun i wr => ∃ k : Nat, k ≤ ss.length ∧ i = .int .i64 k ∧ RIn w1.heap.size w1 wr R (texts (bs.drop k)) false) (fun i _ => ss.length - (intOf i).toNat)
      case atStart => exact ⟨0, Nat.zero_le _, rfl, h2.out⟩
      case round =>
        obtain ⟨k, hk, rfl, hr⟩ := hrel
        replace hr := Lib.hid hr
        by_cases hlt : k < ss.length
        · obtain ⟨b, o, rfl, hcell⟩ := hc k hlt
          have hcell' := (World.cell?_of_block (w := w) ((h.trans (hr.out.2.2.1.mono h.size)).block b (World.block_lt_of_cell? w _ hcell))).trans hcell
          obtain ⟨s, hs⟩ : ∃ s, s = ss[k] := ⟨_, rfl⟩
          rw [← hs] at hcell'
          have hbk : bs.drop k = s.data.toList :: bs.drop (k + 1) := by
            rw [List.drop_eq_getElem_cons (by rw [hbl.out]; exact hlt)]
            congr 1
            simp [HBS.out, hs]
          have hs250 : s.data.toList.length ≤ 250 := hsm.out _ (List.mem_of_mem_drop (by rw [hbk]; exact List.mem_cons_self))
          have hne : (texts (bs.drop k)).isEmpty = false := by rw [hbk]; simp [texts, be]
          have hrt : rtext (texts (bs.drop k)) false = (s.data.toList, texts (bs.drop (k + 1)), false) := by
            rw [hbk, texts, List.append_assoc]
            exact rtext_be _ _ (by omega)
          have hrt := Lib.hid hrt
          have hms := Lib.hid (mk_of s)
          clear hcell hs hbk hs250
          go_wp2_with fail
          refine (jEnd hr.out).mono ?_
          rintro e w3 ⟨rfl, h3⟩
          replace h3 := Lib.hid h3
          rw [hne]
          clear hne
          go_wp2_with fail
          refine (jText hrt.out h3.out).mono ?_
          rintro e w4 ⟨rfl, h4⟩
          replace h4 := Lib.hid h4
          rw [hms.out]
          go_wp2
          go_roundw
          case rel => exact ⟨k + 1, hlt, by go_num, h4.out⟩
          case measure => simp [intOf]; omega
        · obtain rfl : k = ss.length := by omega
          have hnil : texts (bs.drop ss.length) = [] := by rw [List.drop_of_length_le (by rw [hbl.out]; exact Nat.le_refl _)]; rfl
          rw [hnil] at hr
          clear hnil
          go_wp2_with fail
          refine (jEnd hr.out).mono ?_
          rintro e w3 ⟨rfl, h3⟩
          replace h3 := Lib.hid h3
          go_wp2_with fail
          refine (jBad h3.out).mono ?_
          rintro e w4 ⟨rfl, rfl⟩
          go_wp2
          go_ret
          exact ⟨rfl, h.trans (h3.out.2.2.1.mono h.size)⟩
end Go.Proofs.Ytfjdnoonediibaa
