/- The walk of the law PackTells. No condition. -/
import Derived.Test.YtfjdnoonediibaaWl
import Derived.Deep.RegionHeld3
import Derived.Lib.Builder
namespace Go.Proofs.Ytfjdnoonediibaa
open Go.RowKit

theorem Try.infoWriter : (Try.prog.info? 26).map (fun i => (i.zero, i.size, i.bytes)) = some (some (.agg #[.slice none 0 0, .bool false]), 2, 32) := by kernel_rfl
theorem OpAt.was {w0 w : World} {a : Option Addr} {j : Nat} {x : OpD} (h : OpAt w0 a j x) (b : Below w0.heap.size w0 w) : OpAt w a j x := by
  obtain ⟨h1, h2, k, o, rfl, c0, c1, c2⟩ := h
  have hk := World.block_lt_of_cell? w0 _ c0
  exact ⟨h1, h2, k, o, rfl, (World.cell?_of_block (w := w0) (b.block k hk)).trans c0, (World.cell?_of_block (w := w0) (b.block k hk)).trans c1, (World.cell?_of_block (w := w0) (b.block k hk)).trans c2⟩
theorem mk_app (a : ByteArray) (l : List UInt8) (s : ByteArray) : a ++ (mk l ++ s) = a ++ mk (l ++ s.data.toList) := by
  apply ByteArray.ext
  apply Array.ext'
  simp [mk]

set_option maxRecDepth 10000 in
set_option maxHeartbeats 3200000 in
theorem packTells_walk (v : Value) (l : List OpD) (w : World) (hv : IsOps w v l) :
    Calls Try.prog 8 #[v] w fun e w' => e = .returned (.bool true) ∧ Below w.heap.size w w' := by
  obtain ⟨a, c, rfl, hA⟩ := hv
  replace hA := Lib.hid hA
  by_cases h1 : 40 < (l.length : Int)
  · go_enter Try.func8, Try.ntmps8
    go_wp2_with (go_at_call 10; refine (alive_true _).mono ?_; rintro e w1 ⟨rfl, h⟩)
    go_ret
    exact ⟨rfl, h⟩
  have hlen : l.length ≤ 40 := by omega
  obtain ⟨ip, hip, _, _, _⟩ := info_parts Try.infoWriter
  have hpe : ∀ (w : World) (a : Addr), (binOp .neq 23 (.pointer (some a)) (.pointer (some a))).run Try.prog w = .ok (.bool false) w := fun w a => Lib.run_neq_ptr_same (P := Try.prog) (w := w) a Try.underlying23 hip
  go_enter Try.func8, Try.ntmps8
  go_wp2_with (go_at_call 10; refine (alive_true _).mono ?_; rintro e w1 ⟨rfl, h⟩)
  have hw0 := Lib.hid (WIn.new w1)
  obtain ⟨B, hB⟩ : ∃ B, B = w1.heap.size := ⟨_, rfl⟩
  have hal := h
  replace h := Lib.hid h
  clear hal
  go_loopw [4, 5, 32] (fun want good i wr => ∃ (k : Nat) (s : ByteArray) (xs : List UInt8) (g : Bool), k ≤ l.length ∧ i = .int .i64 k ∧ want = .string s ∧ good = .bool g ∧ WIn w1.heap.size w1 wr w1.heap.size xs (!g) ∧ Told l k s xs g) (fun _ _ i _ => l.length - (intOf i).toNat)
  case atStart => exact ⟨0, _, [], true, Nat.zero_le _, rfl, rfl, rfl, hw0.out, Told.start l⟩
  case round =>
    obtain ⟨k, s, xs, g, hk, rfl, rfl, rfl, hw, ht⟩ := hrel
    replace hw := Lib.hid hw
    clear hw0
    have hxs : xs.length ≤ k * 302 := ht.2.2.1
    have hss : s.size ≤ k * 302 := ht.2.2.2.1
    replace ht := Lib.hid ht
    have hbel := Lib.hid (h.out.trans (hw.out.was.1.mono h.out.size))
    by_cases hlt : k < l.length
    · obtain ⟨x, hx⟩ : ∃ x, x = l[k] := ⟨_, rfl⟩
      have hop := (hA.out k hlt).was hbel.out
      rw [← hx] at hop
      obtain ⟨wf0, wf1, b, o, rfl, c0, c1, c2⟩ := hop
      have hbl := World.block_lt_of_cell? wr _ c0
      obtain ⟨x0, x1, x2⟩ := x
      simp only at c0 c1 c2 wf0 wf1
      replace hx := Lib.hid hx
      by_cases hbig : 300 < (x2.size : Int)
      · go_wp2
        go_ret
        exact ⟨rfl, hbel.out.alloc hbel.out.size _⟩
      have hx2 : x2.size ≤ 300 := by omega
      have hl := Lib.hid (LOp.new wr _ (x0, x1, x2) rfl)
      have hw2 := Lib.hid (hw.out.alloc' (.cells #[.int .i64 x0, .int .i64 x1, .string x2] 43))
      by_cases k1 : x0 = 1
      · subst k1
        obtain ⟨ys, q, hy, hye⟩ := put_num 2 x1 xs g
        replace q := Lib.hid q
        replace hye := Lib.hid hye
        go_wp2_with fail
        refine (lNum x1 q.out (by omega) hw2.out hl.out).mono ?_
        rintro e w2 ⟨rfl, h2, l2⟩
        have d1 : w2.cell? ⟨wr.heap.size, 1, none⟩ = some (.int .i64 x1) := cell_of l2 rfl
        replace h2 := Lib.hid h2
        clear hw2 hl hw c0 c1 c2 l2
        go_wp2_with fail
        refine (big_any x1 2 w2 (by omega)).mono ?_
        rintro e w3 ⟨t, ok, rfl, ht1, hok, hte, b3⟩
        have h3 := h2.out.more b3
        have ms := mk_size t
        rw [ht1] at ms
        obtain ⟨hT, hG⟩ := told_num (n := 2) (t := t) (ok := ok) ht.out hlt hx.out hx2 (by omega) (by simp [okOp]) rfl ht1 hok hte hy hye.out
        rw [hG] at h3
        replace h3 := Lib.hid h3
        replace hT := Lib.hid hT
        clear h2 hok b3 d1 hte hG
        cases g
        · go_wp2
          go_roundw
          case rel => exact ⟨k + 1, _, ys, false, hlt, by go_num, rfl, rfl, h3.out, hT.out⟩
          case measure => simp [intOf]; omega
        · go_wp2
          go_roundw
          case rel => exact ⟨k + 1, _, ys, ok, hlt, by go_num, rfl, rfl, h3.out, hT.out⟩
          case measure => simp [intOf]; omega
      by_cases k2 : x0 = 2
      · subst k2
        obtain ⟨ys, q, hy, hye⟩ := put_num 4 x1 xs g
        replace q := Lib.hid q
        replace hye := Lib.hid hye
        go_wp2_with fail
        refine (lLong x1 q.out (by omega) hw2.out hl.out).mono ?_
        rintro e w2 ⟨rfl, h2, l2⟩
        have d1 : w2.cell? ⟨wr.heap.size, 1, none⟩ = some (.int .i64 x1) := cell_of l2 rfl
        replace h2 := Lib.hid h2
        clear hw2 hl hw c0 c1 c2 l2
        go_wp2_with fail
        refine (big_any x1 4 w2 (by omega)).mono ?_
        rintro e w3 ⟨t, ok, rfl, ht1, hok, hte, b3⟩
        have h3 := h2.out.more b3
        have ms := mk_size t
        rw [ht1] at ms
        obtain ⟨hT, hG⟩ := told_num (n := 4) (t := t) (ok := ok) ht.out hlt hx.out hx2 (by omega) (by simp [okOp]) rfl ht1 hok hte hy hye.out
        rw [hG] at h3
        replace h3 := Lib.hid h3
        replace hT := Lib.hid hT
        clear h2 hok b3 d1 hte hG
        cases g
        · go_wp2
          go_roundw
          case rel => exact ⟨k + 1, _, ys, false, hlt, by go_num, rfl, rfl, h3.out, hT.out⟩
          case measure => simp [intOf]; omega
        · go_wp2
          go_roundw
          case rel => exact ⟨k + 1, _, ys, ok, hlt, by go_num, rfl, rfl, h3.out, hT.out⟩
          case measure => simp [intOf]; omega
      have e1 : (x0 == 1) = false := by rw [beq_eq_false_iff_ne]; exact k1
      have e2 : (x0 == 2) = false := by rw [beq_eq_false_iff_ne]; exact k2
      have K1 := Lib.hid k1
      have K2 := Lib.hid k2
      clear k1 k2
      go_wp2_with fail
      obtain ⟨t, hte⟩ : ∃ t, t = be 2 x2.size := ⟨_, rfl⟩
      obtain ⟨ys, q, hT⟩ := told_text (t := t) ht.out hlt hx.out hx2 K1.out K2.out hte
      refine (lText x2 q (by omega) hw2.out hl.out).mono ?_
      rintro e w2 ⟨rfl, h2, l2⟩
      have d2 : w2.cell? ⟨wr.heap.size, 2, none⟩ = some (.string x2) := cell_of l2 rfl
      replace h2 := Lib.hid h2
      replace l2 := Lib.hid l2
      replace hT := Lib.hid hT
      clear hw2 hl hw c0 c1 c2 q
      go_wp2_with fail
      refine (big_any x2.size 2 w2 (by omega)).mono ?_
      rintro e w3 ⟨t', ok, rfl, ht1, hok, hte', b3⟩
      have et : t' = t := by rw [hte' (by omega), hte]; rfl
      subst et
      have h3 := Lib.hid (h2.out.more b3)
      have l3 := l2.out.below b3
      have d3 : w3.cell? ⟨wr.heap.size, 2, none⟩ = some (.string x2) := cell_of l3 rfl
      have ms := mk_size t'
      rw [ht1] at ms
      clear h2 l2 d2 hok b3 hte' l3 hte
      cases g
      · go_wp2
        go_roundw
        case rel => exact ⟨k + 1, _, ys, false, hlt, by go_num, rfl, rfl, h3.out, hT.out⟩
        case measure => simp [intOf]; omega
      · go_wp2
        go_roundw
        case rel => exact ⟨k + 1, _, ys, true, hlt, by go_num, rfl, rfl, h3.out, hT.out⟩
        case measure => simp [intOf]; omega
    · obtain rfl : k = l.length := by omega
      cases g
      · go_wp2_with fail
        refine (iDone hw.out).mono ?_
        rintro e w2 ⟨rfl, rfl⟩
        rw [show mk (dones xs (!false)) = ByteArray.empty from rfl]
        go_wp2
        go_ret
        exact ⟨rfl, hbel.out⟩
      · obtain ⟨hg, hsx, _, _, hall⟩ := ht.out
        rw [List.take_length] at hg hsx hall
        obtain ⟨es, ex⟩ := hsx rfl
        have hgood := Lib.hid hg
        replace hall := Lib.hid hall
        clear hg hsx
        subst ex
        subst es
        go_wp2_with fail
        refine (iDone hw.out).mono ?_
        rintro e w2 ⟨rfl, rfl⟩
        rw [show mk (dones (encs l) (!true)) = mk (encs l) from rfl]
        go_wp2_with fail
        refine (iFrom (l := encs l) hw.out.was.1 hw.out.was.2).mono ?_
        rintro e w2 ⟨R, rfl, h2⟩
        replace h2 := Lib.hid h2
        clear ht
        go_wp2
        go_loopw [124] (fun i wr => ∃ k : Nat, k ≤ l.length ∧ i = .int .i64 k ∧ RIn w1.heap.size w1 wr R (encs (l.drop k)) false) (fun i _ => l.length - (intOf i).toNat)
        case atStart => exact ⟨0, Nat.zero_le _, rfl, h2.out⟩
        case round =>
          obtain ⟨k, hk, rfl, hr⟩ := hrel
          replace hr := Lib.hid hr
          clear h2 hw hbel
          by_cases hlt : k < l.length
          · obtain ⟨x, hx⟩ : ∃ x, x = l[k] := ⟨_, rfl⟩
            have hop := (hA.out k hlt).was (h.out.trans (hr.out.2.2.1.mono h.out.size))
            have hmem : l[k] ∈ l := List.getElem_mem hlt
            have hx2 := hall.out _ hmem
            have hok := List.all_eq_true.1 hgood.out.symm _ hmem
            have hd := encs_drop hlt hx
            rw [← hx] at hop hx2 hok
            obtain ⟨wf0, wf1, b, o, rfl, c0, c1, c2⟩ := hop
            have hbl := World.block_lt_of_cell? wr _ c0
            obtain ⟨x0, x1, x2⟩ := x
            simp only at c0 c1 c2 wf0 wf1 hx2
            replace hok := Lib.hid hok
            replace hd := Lib.hid hd
            clear hmem hx
            by_cases k1 : x0 = 1
            · subst k1
              have hox : 0 ≤ x1 ∧ x1 < 65536 := by have := hok.out; simpa [okOp] using this
              obtain ⟨n, rfl⟩ := Int.eq_ofNat_of_zero_le hox.1
              have q : rnum 2 (encs (l.drop k)) false = (n, encs (l.drop (k + 1)), false) := by
                rw [hd.out, show enc (1, (n : Int), x2) = be 2 n from rfl]; exact rnum2 n _ (by omega)
              replace q := Lib.hid q
              have hL := LOp.new wr _ (1, (n : Int), x2) rfl
              have hR := hr.out.more ((Below.refl wr.heap.size wr).alloc (Nat.le_refl _) (.cells #[.int .i64 1, .int .i64 (n : Int), .string x2] 43))
              have hR1 : Hid (RIn w1.heap.size w1 (wr.alloc (.cells #[.int .i64 1, .int .i64 (n : Int), .string x2] 43)).drew R (encs (l.drop k)) false) := Lib.hid (hR.drewN 1)
              have hL1 : Hid (LOp (wr.alloc (.cells #[.int .i64 1, .int .i64 (n : Int), .string x2] 43)).drew wr.heap.size (1, (n : Int), x2)) := Lib.hid hL
              have dd : (wr.alloc (.cells #[.int .i64 1, .int .i64 (n : Int), .string x2] 43)).drew.cell? ⟨wr.heap.size, 1, none⟩ = some (.int .i64 (n : Int)) := cell_of hL rfl
              replace hR := Lib.hid hR
              clear hL
              go_wp2_with fail
              refine (jBad hR.out).mono ?_
              rintro e w3 ⟨rfl, rfl⟩
              go_wp2
              go_region_held3 (fun w' => w'.cell? ⟨wr.heap.size, 1, none⟩ = some (.int .i64 (n : Int))) (first | assumption) (first | (go_at_call 15; refine (mNum q.out hR1.out hL1.out).mono ?_; rintro e wq ⟨rfl, hR2, l2⟩; have d1q : wq.cell? ⟨wr.heap.size, 1, none⟩ = some (.int .i64 (n : Int)) := cell_of l2 rfl; replace hR2 := Lib.hid hR2))
              all_goals
                go_wp2
                go_roundw
                case rel => exact ⟨k + 1, hlt, by go_num, hR2.out⟩
                case measure => simp [intOf]; omega
            by_cases k2 : x0 = 2
            · subst k2
              have hox : 0 ≤ x1 ∧ x1 < 4294967296 := by have := hok.out; simpa [okOp] using this
              obtain ⟨n, rfl⟩ := Int.eq_ofNat_of_zero_le hox.1
              have q : rnum 4 (encs (l.drop k)) false = (n, encs (l.drop (k + 1)), false) := by
                rw [hd.out, show enc (2, (n : Int), x2) = be 4 n from rfl]; exact rnum4 n _ (by omega)
              replace q := Lib.hid q
              have hL := LOp.new wr _ (2, (n : Int), x2) rfl
              have hR := hr.out.more ((Below.refl wr.heap.size wr).alloc (Nat.le_refl _) (.cells #[.int .i64 2, .int .i64 (n : Int), .string x2] 43))
              have hR1 : Hid (RIn w1.heap.size w1 (wr.alloc (.cells #[.int .i64 2, .int .i64 (n : Int), .string x2] 43)).drew R (encs (l.drop k)) false) := Lib.hid (hR.drewN 1)
              have hL1 : Hid (LOp (wr.alloc (.cells #[.int .i64 2, .int .i64 (n : Int), .string x2] 43)).drew wr.heap.size (2, (n : Int), x2)) := Lib.hid hL
              have dd : (wr.alloc (.cells #[.int .i64 2, .int .i64 (n : Int), .string x2] 43)).drew.cell? ⟨wr.heap.size, 1, none⟩ = some (.int .i64 (n : Int)) := cell_of hL rfl
              replace hR := Lib.hid hR
              clear hL
              go_wp2_with fail
              refine (jBad hR.out).mono ?_
              rintro e w3 ⟨rfl, rfl⟩
              go_wp2
              go_region_held3 (fun w' => w'.cell? ⟨wr.heap.size, 1, none⟩ = some (.int .i64 (n : Int))) (first | assumption) (first | (go_at_call 20; refine (mLong q.out hR1.out hL1.out).mono ?_; rintro e wq ⟨rfl, hR2, l2⟩; have d1q : wq.cell? ⟨wr.heap.size, 1, none⟩ = some (.int .i64 (n : Int)) := cell_of l2 rfl; replace hR2 := Lib.hid hR2))
              all_goals
                go_wp2
                go_roundw
                case rel => exact ⟨k + 1, hlt, by go_num, hR2.out⟩
                case measure => simp [intOf]; omega
            have e1 : (x0 == 1) = false := by rw [beq_eq_false_iff_ne]; exact k1
            have e2 : (x0 == 2) = false := by rw [beq_eq_false_iff_ne]; exact k2
            have K1 := Lib.hid k1
            have K2 := Lib.hid k2
            clear k1 k2
            have hz := size_toList x2
            have q : rtext (encs (l.drop k)) false = (x2.data.toList, encs (l.drop (k + 1)), false) := by
              rw [hd.out, show enc (x0, x1, x2) = be 2 x2.data.toList.length ++ x2.data.toList by simp [enc, K1.out, K2.out], List.append_assoc]; exact rtext_be _ _ (by omega)
            replace q := Lib.hid q
            have hL := LOp.new wr _ (x0, x1, x2) rfl
            have hR := hr.out.more ((Below.refl wr.heap.size wr).alloc (Nat.le_refl _) (.cells #[.int .i64 x0, .int .i64 x1, .string x2] 43))
            have hR1 : Hid (RIn w1.heap.size w1 (wr.alloc (.cells #[.int .i64 x0, .int .i64 x1, .string x2] 43)).drew R (encs (l.drop k)) false) := Lib.hid (hR.drewN 1)
            have hL1 : Hid (LOp (wr.alloc (.cells #[.int .i64 x0, .int .i64 x1, .string x2] 43)).drew wr.heap.size (x0, x1, x2)) := Lib.hid hL
            have dd : (wr.alloc (.cells #[.int .i64 x0, .int .i64 x1, .string x2] 43)).drew.cell? ⟨wr.heap.size, 2, none⟩ = some (.string x2) := cell_of hL rfl
            replace hR := Lib.hid hR
            clear hL
            go_wp2_with fail
            refine (jBad hR.out).mono ?_
            rintro e w3 ⟨rfl, rfl⟩
            go_wp2
            go_region_held3 (fun w' => w'.cell? ⟨wr.heap.size, 2, none⟩ = some (.string x2)) (first | assumption) (first | (go_at_call 16; refine (mTextS q.out hR1.out hL1.out).mono ?_; rintro e wq ⟨rfl, hR2, l2⟩; have d1q : wq.cell? ⟨wr.heap.size, 2, none⟩ = some (.string x2) := cell_of l2 rfl; replace hR2 := Lib.hid hR2))
            all_goals
              go_wp2
              go_roundw
              case rel => exact ⟨k + 1, hlt, by go_num, hR2.out⟩
              case measure => simp [intOf]; omega
          · obtain rfl : k = l.length := by omega
            rw [List.drop_length, show encs [] = [] from rfl] at hr
            go_wp2_with fail
            refine (jEnd hr.out).mono ?_
            rintro e w3 ⟨rfl, h3⟩
            replace h3 := Lib.hid h3
            rw [show (!false && ([] : List UInt8).isEmpty) = true from rfl]
            go_wp2_with fail
            refine (jNum (n := 0) (l' := []) (b' := true) rfl h3.out).mono ?_
            rintro e w4 ⟨rfl, h4⟩
            replace h4 := Lib.hid h4
            go_wp2_with fail
            refine (jBad h4.out).mono ?_
            rintro e w5 ⟨rfl, rfl⟩
            go_wp2_with fail
            refine (jText (s := []) (l' := []) (b' := true) rfl h4.out).mono ?_
            rintro e w5 ⟨rfl, h5⟩
            replace h5 := Lib.hid h5
            go_wp2_with fail
            refine (jEnd h5.out).mono ?_
            rintro e w6 ⟨rfl, h6⟩
            have b6 := h.out.trans (h6.2.2.1.mono h.out.size)
            replace b6 := Lib.hid b6
            rw [show (!true && ([] : List UInt8).isEmpty) = false from rfl]
            clear h6 h5 h4 h3 hr
            go_wp2_with fail
            refine (wDone_nil _).mono ?_
            rintro e w7 ⟨s7, rfl, c7⟩
            have b7 := Lib.hid (b6.out.trans (c7.mono b6.out.size))
            clear c7
            go_wp2_with fail
            refine (wNum_nil _ _).mono ?_
            rintro e w8 ⟨rfl, rfl⟩
            go_wp2_with fail
            refine (wLong_nil _ _).mono ?_
            rintro e w8 ⟨rfl, rfl⟩
            go_wp2_with fail
            refine (wText_nil _ _).mono ?_
            rintro e w8 ⟨rfl, c8⟩
            have b8 := Lib.hid (b7.out.trans (c8.mono b7.out.size))
            clear c8
            go_wp2_with fail
            refine (rBad_nil _).mono ?_
            rintro e w9 ⟨rfl, rfl⟩
            go_wp2_with fail
            refine (rNum_nil _).mono ?_
            rintro e w9 ⟨rfl, rfl⟩
            go_wp2_with fail
            refine (rLong_nil _).mono ?_
            rintro e w9 ⟨rfl, rfl⟩
            go_wp2_with fail
            refine (rText_nil _).mono ?_
            rintro e w9 ⟨rfl, c9⟩
            have b9 := Lib.hid (b8.out.trans (c9.mono b8.out.size))
            clear c9
            go_wp2_with fail
            refine (rEnd_nil _).mono ?_
            rintro e w10 ⟨rfl, c10⟩
            have b10 := Lib.hid (b9.out.trans (c10.mono b9.out.size))
            clear c10
            go_wp2
            go_ret
            exact ⟨rfl, b10.out⟩
end Go.Proofs.Ytfjdnoonediibaa
