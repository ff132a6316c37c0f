/- The walk of the law DiskSyncs. No condition. -/
import Derived.Test.YtnphpnbliigfbaaLSyncs1
import Derived.Test.YtnphpnbliigfbaaOpenStrsZ
namespace Go.Proofs.Ytnphpnbliigfbaa
open Go.RowKit

def zs : List (List UInt8) := List.replicate 40 zsec
/-- The sectors of texts. -/
def fa1 (ss : List ByteArray) : List (List UInt8) := ss.map (fun s => fill s.data.toList)
def fb1 (ss : List ByteArray) : List (List UInt8) := ss.map (fun s => fill ((⟨#[98]⟩ : ByteArray) ++ s).data.toList)
theorem fa1_at {ss : List ByteArray} {j : Nat} (h : j < ss.length) {s : ByteArray} (hs : s = ss[j]) : (fa1 ss).getD j [] = fill s.data.toList := by
  rw [hs, List.getD, List.getElem?_eq_getElem (by simpa [fa1] using h)]; simp [fa1]
theorem fb1_at {ss : List ByteArray} {j : Nat} (h : j < ss.length) {s : ByteArray} (hs : s = ss[j]) : (fb1 ss).getD j [] = fill ((⟨#[98]⟩ : ByteArray) ++ s).data.toList := by
  rw [hs, List.getD, List.getElem?_eq_getElem (by simpa [fb1] using h)]; simp [fb1]
theorem fill_str (s : ByteArray) (w : World) : Calls Try.prog 15 #[.string s] w fun e w' => e = .returned (.string (mk (fill s.data.toList))) ∧ Below w.heap.size w w' := by
  have := fill_any s.data.toList w
  rw [mk_of] at this
  exact this
/-- A text that came in, in a later world. -/
def AtStr (w : World) (a : Option Addr) (ss : List ByteArray) : Prop := ∀ j (h : j < ss.length), ss[j].size ≤ 140737488351232 ∧ ∃ b o, a = some ⟨b, o, none⟩ ∧ w.cell? ⟨b, o + j, none⟩ = some (.string ss[j])
theorem AtStr.was {w0 w : World} {a : Option Addr} {ss : List ByteArray} (hc : AtStr w0 a ss) (b : Below w0.heap.size w0 w) : AtStr w a ss := by
  intro j hj
  obtain ⟨hz, k, o, rfl, h1⟩ := hc j hj
  exact ⟨hz, k, o, rfl, (World.cell?_of_block (w := w0) (b.block k (World.block_lt_of_cell? w0 _ h1))).trans h1⟩
def S1 (xs : List ByteArray) : List (List UInt8) := dset zs (pw (fa1 xs) xs.length)
def S2 (xs ys : List ByteArray) (k : Bool) : List (List UInt8) := after (S1 xs) (fb1 ys) ys.length k
theorem zs_len : zs.length = 40 := by simp [zs]
theorem S1_len (xs : List ByteArray) : (S1 xs).length = 40 := by rw [S1, dset_length, zs_len]
theorem S2_len (xs ys : List ByteArray) (k : Bool) : (S2 xs ys k).length = 40 := by
  cases k
  · exact S1_len xs
  · rw [S2, after, if_pos rfl, dset_length, S1_len]
theorem S1_get (xs : List ByteArray) (ha : xs.length ≤ 20) (i : Nat) (hi : i < 40) : (S1 xs).getD i [] = if i < xs.length then (fa1 xs).getD i [] else zsec := by
  rw [S1, set_get zs _ i _ (by rw [zs_len]; omega)]
  have : zs.getD i [] = zsec := by rw [zs, List.getD, List.getElem?_replicate, if_pos hi]; rfl
  rw [this]
theorem S2_keep (xs ys : List ByteArray) (hb : ys.length ≤ 20) (i : Nat) (h : i < ys.length) : (S2 xs ys true).getD i [] = (fb1 ys).getD i [] := by
  rw [S2, after, if_pos rfl, set_get _ _ i _ (by rw [S1_len]; omega), if_pos h]
theorem S2_not (xs ys : List ByteArray) (hb : ys.length ≤ 20) (i : Nat) (k : Bool) (h : k = false ∨ ¬ i < ys.length) : (S2 xs ys k).getD i [] = (S1 xs).getD i [] := by
  cases k
  · rfl
  · rw [S2, after, if_pos rfl, set_get _ _ i _ (by rw [S1_len]; omega), if_neg (by rcases h with h | h; cases h; exact h)]
theorem iCrashN {H B : Nat} {w0 w : World} {d : Dk} (v : Value) (n : Nat) (k : Bool) {d' : Dk} {x : Nat} (q : dcrash d (List.replicate n k) = (d', x)) (hn : n ≤ 1000000) (h : DB H w0 w B d v n k) :
    Calls Try.prog 17 #[.pointer (some ⟨B, 0, none⟩), v] w fun e w' => e = .returned (.int .i64 x) ∧ DIn H w0 w' B d' := by
  have hr := h.row
  obtain ⟨a, l, c, rfl, rfl⟩ := own_form hr
  have hb : BAt w a (List.replicate l k) := by
    intro j hj
    have hj' : j < l := by simpa using hj
    have hcells := fun (g : Nat) => hr.cells (g := g)
    rcases hr.2 with ⟨h0, h1⟩ | ⟨g, cap, cur, hv, _, hg, _⟩
    · omega
    · simp only [Value.slice.injEq, true_and] at hv
      obtain ⟨rfl, rfl⟩ := hv
      have a0 := hcells g (by simp [Value.ownBlock]) j (.bool k) (by simp [hj'])
      rw [Addr.add_lit] at a0
      exact ⟨g, 0, rfl, by rw [a0]; simp⟩
  have C := iCrash (H := H) (w0 := w0) a c (List.replicate l k) q hb (by simpa using hn) h.din
  rw [List.length_replicate] at C
  exact C

set_option maxRecDepth 10000 in
set_option maxHeartbeats 3200000 in
theorem diskSyncs_walk (va : Value) (xs : List ByteArray) (vb : Value) (ys : List ByteArray) (keep : Bool) (w : World) (hva : IsStrs w va xs) (hvb : IsStrs w vb ys) :
    Calls Try.prog 5 #[va, vb, .bool keep] w fun e w' => e = .returned (.bool true) ∧ Below w.heap.size w w' := by
  obtain ⟨a, ca, rfl, hA0⟩ := hva
  obtain ⟨b, cb, rfl, hB0⟩ := hvb
  have hA : Hid (AtStr w a xs) := Lib.hid hA0
  have hB : Hid (AtStr w b ys) := Lib.hid hB0
  clear hA0 hB0
  by_cases g1 : 20 < (xs.length : Int)
  · go_enter Try.func5, Try.ntmps5
    go_wp2_with (go_at_call 12; refine (alive_true _).mono ?_; rintro e w1 ⟨rfl, h⟩)
    go_ret
    exact ⟨rfl, h⟩
  by_cases g2 : 20 < (ys.length : Int)
  · go_enter Try.func5, Try.ntmps5
    go_wp2_with (go_at_call 12; refine (alive_true _).mono ?_; rintro e w1 ⟨rfl, h⟩)
    go_ret
    exact ⟨rfl, h⟩
  obtain ⟨ib, hib, hy0, hy1, hy2⟩ := info_parts Try.infoBool
  have ha20 : xs.length ≤ 20 := by omega
  have hb20 : ys.length ≤ 20 := by omega
  go_enter Try.func5, Try.ntmps5
  go_wp2_with (go_at_call 12; refine (alive_true _).mono ?_; rintro e w1 ⟨rfl, h⟩)
  refine (iNew 40 (by omega) (by omega) h h.size).mono ?_
  rintro e w2 ⟨B, rfl, h2⟩
  rw [show dnew 40 = dS zs (fa1 xs) 0 from rfl] at h2
  replace h2 := Lib.hid h2
  clear h
  go_wp2_with fail
  go_loopw [35] (fun i wr => ∃ j : Nat, j ≤ xs.length ∧ i = .int .i64 j ∧ DIn w.heap.size w wr B (dS zs (fa1 xs) j)) (fun i _ => xs.length - (intOf i).toNat)
  case atStart => exact ⟨0, Nat.zero_le _, rfl, h2.out⟩
  case round =>
    obtain ⟨j, hj, rfl, hd⟩ := hrel
    replace hd := Lib.hid hd
    clear h2
    by_cases hlt : j < xs.length
    · obtain ⟨hz, p, o, rfl, hcell⟩ := (hA.out.was hd.out.was.1) j hlt
      obtain ⟨s, hs⟩ : ∃ s, s = xs[j] := ⟨_, rfl⟩
      rw [← hs] at hcell hz
      have hl := Lib.hid (fa1_at hlt hs)
      clear hs
      go_wp2_with fail
      refine (fill_str s _).mono ?_
      rintro e w3 ⟨rfl, b3⟩
      have h3 := Lib.hid (hd.out.more b3)
      clear hd b3 hcell
      go_wp2_with fail
      refine (iWrite j _ (s_write (by rw [zs_len]; omega) hl.out (fill_length _)) (by rw [show (dS zs (fa1 xs) j).pend.length = j from pw_length _ _]; omega) h3.out).mono ?_
      rintro e w4 ⟨rfl, h4⟩
      replace h4 := Lib.hid h4
      clear h3
      go_wp2
      go_roundw
      case rel => exact ⟨j + 1, hlt, by go_num, h4.out⟩
      case measure => simp [intOf]; omega
    · obtain rfl : j = xs.length := by omega
      go_wp2_with fail
      refine (iSync (s_sync zs (fa1 xs) (fb1 ys) xs.length) hd.out).mono ?_
      rintro e w3 ⟨rfl, h3⟩
      replace h3 : Hid (DIn w.heap.size w w3 B (dS (S1 xs) (fb1 ys) 0)) := Lib.hid h3
      clear hd
      go_wp2_with fail
      refine (iPending h3.out).mono ?_
      rintro e w4 ⟨rfl, rfl⟩
      rw [show (((dS (S1 xs) (fb1 ys) 0).pend.length : Nat) : Int) = 0 from rfl]
      go_wp2_with fail
      obtain ⟨wo, hwo⟩ : ∃ wo : World, wo = w3 := ⟨_, rfl⟩
      go_loopw [10, 57] (fun v i wr => ∃ j : Nat, j ≤ ys.length ∧ i = .int .i64 j ∧ DB w.heap.size w wr B (dS (S1 xs) (fb1 ys) j) v j keep) (fun _ i _ => ys.length - (intOf i).toNat)
      case atStart => exact ⟨0, Nat.zero_le _, rfl, DB.start h3.out⟩
      case round =>
        obtain ⟨j, hj, rfl, hd⟩ := hrel
        replace hd := Lib.hid hd
        clear h3
        by_cases hlt : j < ys.length
        · obtain ⟨hz, p, o, rfl, hcell⟩ := (hB.out.was hd.out.din.was.1) j hlt
          obtain ⟨s, hs⟩ : ∃ s, s = ys[j] := ⟨_, rfl⟩
          rw [← hs] at hcell hz
          have hl := Lib.hid (fb1_at hlt hs)
          clear hs
          go_wp2_with fail
          refine (fill_str ((⟨#[98]⟩ : ByteArray) ++ s) _).mono ?_
          rintro e w5 ⟨rfl, b5⟩
          have h5 := Lib.hid (hd.out.more b5)
          clear hd b5 hcell
          go_wp2_with fail
          refine (h5.out.write j _ (s_write (by rw [S1_len]; omega) hl.out (fill_length _)) (by rw [show (dS (S1 xs) (fb1 ys) j).pend.length = j from pw_length _ _]; omega)).mono ?_
          rintro e w6 ⟨rfl, h6⟩
          have h7 := Lib.hid (h6.more (w1 := w6.alloc (.cells #[.bool keep] 4)) ((Below.refl _ _).alloc (Nat.le_refl _) _))
          have hsz := h6.din.was.2
          clear h5 h6
          go_wp2_with (at_builtin; refine wpList_append_own' rfl (.tmp 69) (.tmp 71) 22 rfl w.heap.size 4 ib (.bool false) 1 1 Try.underlying22 hib hy0 hy1 hy2 rfl (by decide) _ j _ rfl h7.out.row ⟨w6.heap.size, 0, none⟩ 1 1 [.bool keep] rfl rfl (new_one _ _ _ (by simp)) (by intro u hu; simp at hu; subst hu; rfl) (by unfold maxLen; omega) (by omega) (by simp; omega) ?_; intro v' w8 hown' hgrow hrow; have h8 := Lib.hid (h7.out.grew (n' := j + 1) (by rw [List.replicate_succ']; exact hown') hgrow hrow); clear hown' hgrow hrow h7)
          go_roundw
          case rel => exact ⟨j + 1, hlt, by go_num, h8.out⟩
          case measure => simp [intOf]; omega
        · obtain rfl : j = ys.length := by omega
          obtain ⟨n, hq⟩ := s_crash (S1 xs) (fb1 ys) ys.length keep
          replace hq := Lib.hid hq
          go_wp2_with fail
          refine (iCrashN _ ys.length keep hq.out (by omega) hd.out).mono ?_
          rintro e w5 ⟨rfl, h5⟩
          replace h5 : Hid (DIn w.heap.size w w5 B (dS (S2 xs ys keep) (fb1 ys) 0)) := Lib.hid h5
          clear hd
          go_wp2_with fail
          -- the last loop
          go_loopw [13] (fun i wr => ∃ j : Nat, j ≤ 40 ∧ i = .int .i64 j ∧ DIn w.heap.size w wr B (dS (S2 xs ys keep) (fb1 ys) 0)) (fun i _ => 40 - (intOf i).toNat)
          case atStart => exact ⟨0, Nat.zero_le _, rfl, h5.out⟩
          case round =>
            obtain ⟨j, hj, rfl, hd⟩ := hrel
            replace hd := Lib.hid hd
            clear h5
            by_cases hlt : j < 40
            · have g1 := S1_get xs ha20 j hlt
              have L := S2_len xs ys keep
              by_cases ha : j < xs.length
              · cases keep
                · have va := fa1_at ha rfl
                  rw [if_pos ha, va] at g1
                  have hv := S2_not xs ys hb20 j false (.inl rfl)
                  rw [g1] at hv
                  clear g1
                  clear va
                  obtain ⟨sa, hsa⟩ : ∃ s, s = xs[j] := ⟨_, rfl⟩
                  rw [← hsa] at hv
                  replace hv := Lib.hid hv
                  replace L := Lib.hid L
                  replace hsa := Lib.hid hsa
                  go_wp2_with fail
                  refine (fill_any [] _).mono ?_
                  rintro e w6 ⟨rfl, b6⟩
                  rw [fill_nil]
                  have h6 := Lib.hid (hd.out.more b6)
                  clear b6 hd
                  obtain ⟨hza, p, o, rfl, hca⟩ := (hA.out.was h6.out.was.1) j ha
                  rw [← hsa.out] at hca hza
                  clear hsa
                  go_wp2_with fail
                  refine (fill_str sa _).mono ?_
                  rintro e w7 ⟨rfl, b7⟩
                  have h7 := Lib.hid (h6.out.more b7)
                  clear b7 h6 hca
                  go_wp2_with fail
                  refine (iRead j (s_read (S2 xs ys false) (fb1 ys) j (by rw [L.out]; exact hlt) hv.out) h7.out).mono ?_
                  rintro e w9 ⟨rfl, rfl⟩
                  go_wp2
                  go_roundw
                  case rel => exact ⟨j + 1, hlt, by go_num, h7.out⟩
                  case measure => simp [intOf]; omega
                · by_cases hb : j < ys.length
                  · have va := fa1_at ha rfl
                    rw [if_pos ha, va] at g1
                    have vb := fb1_at hb rfl
                    have hv := S2_keep xs ys hb20 j hb
                    rw [vb] at hv
                    clear g1
                    clear va
                    clear vb
                    obtain ⟨sa, hsa⟩ : ∃ s, s = xs[j] := ⟨_, rfl⟩
                    obtain ⟨sb, hsb⟩ : ∃ s, s = ys[j] := ⟨_, rfl⟩
                    rw [← hsb] at hv
                    replace hv := Lib.hid hv
                    replace L := Lib.hid L
                    replace hsa := Lib.hid hsa
                    replace hsb := Lib.hid hsb
                    go_wp2_with fail
                    refine (fill_any [] _).mono ?_
                    rintro e w6 ⟨rfl, b6⟩
                    rw [fill_nil]
                    have h6 := Lib.hid (hd.out.more b6)
                    clear b6 hd
                    obtain ⟨hza, p, o, rfl, hca⟩ := (hA.out.was h6.out.was.1) j ha
                    rw [← hsa.out] at hca hza
                    clear hsa
                    go_wp2_with fail
                    refine (fill_str sa _).mono ?_
                    rintro e w7 ⟨rfl, b7⟩
                    have h7 := Lib.hid (h6.out.more b7)
                    clear b7 h6 hca
                    obtain ⟨hzb, p2, o2, rfl, hcb⟩ := (hB.out.was h7.out.was.1) j hb
                    rw [← hsb.out] at hcb hzb
                    clear hsb
                    go_wp2_with fail
                    refine (fill_str ((⟨#[98]⟩ : ByteArray) ++ sb) _).mono ?_
                    rintro e w8 ⟨rfl, b8⟩
                    have h8 := Lib.hid (h7.out.more b8)
                    clear b8 h7 hcb
                    go_wp2_with fail
                    refine (iRead j (s_read (S2 xs ys true) (fb1 ys) j (by rw [L.out]; exact hlt) hv.out) h8.out).mono ?_
                    rintro e w9 ⟨rfl, rfl⟩
                    go_wp2
                    go_roundw
                    case rel => exact ⟨j + 1, hlt, by go_num, h8.out⟩
                    case measure => simp [intOf]; omega
                  · have va := fa1_at ha rfl
                    rw [if_pos ha, va] at g1
                    have hv := S2_not xs ys hb20 j true (.inr hb)
                    rw [g1] at hv
                    clear g1
                    clear va
                    obtain ⟨sa, hsa⟩ : ∃ s, s = xs[j] := ⟨_, rfl⟩
                    rw [← hsa] at hv
                    replace hv := Lib.hid hv
                    replace L := Lib.hid L
                    replace hsa := Lib.hid hsa
                    go_wp2_with fail
                    refine (fill_any [] _).mono ?_
                    rintro e w6 ⟨rfl, b6⟩
                    rw [fill_nil]
                    have h6 := Lib.hid (hd.out.more b6)
                    clear b6 hd
                    obtain ⟨hza, p, o, rfl, hca⟩ := (hA.out.was h6.out.was.1) j ha
                    rw [← hsa.out] at hca hza
                    clear hsa
                    go_wp2_with fail
                    refine (fill_str sa _).mono ?_
                    rintro e w7 ⟨rfl, b7⟩
                    have h7 := Lib.hid (h6.out.more b7)
                    clear b7 h6 hca
                    go_wp2_with fail
                    refine (iRead j (s_read (S2 xs ys true) (fb1 ys) j (by rw [L.out]; exact hlt) hv.out) h7.out).mono ?_
                    rintro e w9 ⟨rfl, rfl⟩
                    go_wp2
                    go_roundw
                    case rel => exact ⟨j + 1, hlt, by go_num, h7.out⟩
                    case measure => simp [intOf]; omega
              · cases keep
                · rw [if_neg ha] at g1
                  have hv := S2_not xs ys hb20 j false (.inl rfl)
                  rw [g1] at hv
                  clear g1
                  replace hv := Lib.hid hv
                  replace L := Lib.hid L
                  go_wp2_with fail
                  refine (fill_any [] _).mono ?_
                  rintro e w6 ⟨rfl, b6⟩
                  rw [fill_nil]
                  have h6 := Lib.hid (hd.out.more b6)
                  clear b6 hd
                  go_wp2_with fail
                  refine (iRead j (s_read (S2 xs ys false) (fb1 ys) j (by rw [L.out]; exact hlt) hv.out) h6.out).mono ?_
                  rintro e w9 ⟨rfl, rfl⟩
                  go_wp2
                  go_roundw
                  case rel => exact ⟨j + 1, hlt, by go_num, h6.out⟩
                  case measure => simp [intOf]; omega
                · by_cases hb : j < ys.length
                  · rw [if_neg ha] at g1
                    have vb := fb1_at hb rfl
                    have hv := S2_keep xs ys hb20 j hb
                    rw [vb] at hv
                    clear g1
                    clear vb
                    obtain ⟨sb, hsb⟩ : ∃ s, s = ys[j] := ⟨_, rfl⟩
                    rw [← hsb] at hv
                    replace hv := Lib.hid hv
                    replace L := Lib.hid L
                    replace hsb := Lib.hid hsb
                    go_wp2_with fail
                    refine (fill_any [] _).mono ?_
                    rintro e w6 ⟨rfl, b6⟩
                    rw [fill_nil]
                    have h6 := Lib.hid (hd.out.more b6)
                    clear b6 hd
                    obtain ⟨hzb, p2, o2, rfl, hcb⟩ := (hB.out.was h6.out.was.1) j hb
                    rw [← hsb.out] at hcb hzb
                    clear hsb
                    go_wp2_with fail
                    refine (fill_str ((⟨#[98]⟩ : ByteArray) ++ sb) _).mono ?_
                    rintro e w8 ⟨rfl, b8⟩
                    have h8 := Lib.hid (h6.out.more b8)
                    clear b8 h6 hcb
                    go_wp2_with fail
                    refine (iRead j (s_read (S2 xs ys true) (fb1 ys) j (by rw [L.out]; exact hlt) hv.out) h8.out).mono ?_
                    rintro e w9 ⟨rfl, rfl⟩
                    go_wp2
                    go_roundw
                    case rel => exact ⟨j + 1, hlt, by go_num, h8.out⟩
                    case measure => simp [intOf]; omega
                  · rw [if_neg ha] at g1
                    have hv := S2_not xs ys hb20 j true (.inr hb)
                    rw [g1] at hv
                    clear g1
                    replace hv := Lib.hid hv
                    replace L := Lib.hid L
                    go_wp2_with fail
                    refine (fill_any [] _).mono ?_
                    rintro e w6 ⟨rfl, b6⟩
                    rw [fill_nil]
                    have h6 := Lib.hid (hd.out.more b6)
                    clear b6 hd
                    go_wp2_with fail
                    refine (iRead j (s_read (S2 xs ys true) (fb1 ys) j (by rw [L.out]; exact hlt) hv.out) h6.out).mono ?_
                    rintro e w9 ⟨rfl, rfl⟩
                    go_wp2
                    go_roundw
                    case rel => exact ⟨j + 1, hlt, by go_num, h6.out⟩
                    case measure => simp [intOf]; omega
            · obtain rfl : j = 40 := by omega
              go_wp2
              go_ret
              exact ⟨rfl, hd.out.was.1⟩
end Go.Proofs.Ytnphpnbliigfbaa
