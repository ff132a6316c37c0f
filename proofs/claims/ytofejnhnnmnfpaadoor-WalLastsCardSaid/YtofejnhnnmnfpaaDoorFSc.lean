/- take of package frame's scan, where the sector is a fresh one (2). No condition. -/
import Derived.Test.YtofejnhnnmnfpaaDoorFTk2
import Derived.Test.YtofejnhnnmnfpaaDoorFTk3
namespace Go.Proofs.YtofejnhnnmnfpaaDoor.Fr
set_option maxRecDepth 100000
open Go.RowKit
attribute [local go_sem] mk_size mk_append empty_mk
set_option maxRecDepth 100000 in
set_option maxHeartbeats 8000000 in
theorem take_fresh2 (w0 : World) (B : Nat) (s : St) (xe xi : Nat) (xp : List UInt8) (b : List UInt8) (w : World) (hs : SAt w0 w B s) (hi : Inv s) (hb : b.length ≤ 140737488351232) (hd : dec b = some ⟨xe, xi, true, xp⟩) (hf : fits s ⟨xe, xi, true, xp⟩ = true) (hq : xe ≠ s.epoch) :
    Calls Tryd.prog 55 #[.pointer (some ⟨B, 0, none⟩), .string (mk b)] w fun e w' => e = .returned (.bool true) ∧ SAt w0 w' B (eat s ⟨xe, xi, true, xp⟩) := by
  obtain ⟨v, hB, ho, hle, hw⟩ := id hs
  obtain ⟨i1, i2, i3, i4, i5⟩ := hi
  have hx := dec_some hd
  obtain ⟨g1, g2, g3, g4, g5, g6⟩ := secOk_iff.1 hx.1
  simp only at g1 g2 g3 g4 g5 g6
  obtain ⟨sb, so, sa, se, sl, sn, sla⟩ := s
  simp only at i1 i2 i3 i4 i5 hB ho
  have hBlt := lt_of hB
  have hff : xi = sa ∧ se ≤ xe ∧ (xe = se ∨ true = true) := by simp [fits] at hf; exact ⟨hf.1, hf.2, .inr rfl⟩
  obtain ⟨c1, c2, c3⟩ := hff
  have t1 : ((xi : Int) != sa) = false := by rw [bne_eq_false_iff_eq]; omega
  have t2 : decide (xe < se) = false := by simp; omega
  have t3 : ((xe : Int) != se) = true := by rw [bne_iff_ne]; have hq' : ¬ xe = se := hq; omega
  replace hq := Lib.hid hq
  have hsa : sa ≤ 65535 := by omega
  replace c1 := Lib.hid c1
  replace c3 := Lib.hid c3
  obtain ⟨b1, hb1e⟩ : ∃ b1, b1 = xp := ⟨_, rfl⟩
  have hb1l : b1.length ≤ sb.length + 56 := by rw [hb1e]; (try rw [List.length_append]); omega
  have hl1 : 3 * sl.length + b1.length ≤ 56 * sa + 56 := by rw [hb1e]; omega
  have heat : ∀ L : Bool, L = true → eat ⟨sb, so, sa, se, sl, sn, sla⟩ ⟨xe, xi, true, xp⟩ = if L = true then { b := (drain b1).2.1, open_ := (drain b1).2.2, at_ := sa + 1, epoch := xe, l := sl ++ (drain b1).1, end_ := if (drain b1).1 = [] then sn else sa + 1, last := if (drain b1).1 = [] then sla else xe } else { b := b1, open_ := false, at_ := sa + 1, epoch := xe, l := sl, end_ := sn, last := sla } := by
    intro L hL
    subst hL hb1e
    simp [eat]
  obtain ⟨L, hL⟩ : ∃ L : Bool, L = true := ⟨_, rfl⟩
  have hsf := heat L hL
  obtain ⟨sf, hse⟩ : ∃ sf, sf = eat ⟨sb, so, sa, se, sl, sn, sla⟩ ⟨xe, xi, true, xp⟩ := ⟨_, rfl⟩
  rw [← hse] at hsf ⊢
  clear heat hse
  replace hsf := Lib.hid hsf
  replace hL := Lib.hid hL
  replace hb1e := Lib.hid hb1e
  replace hs := Lib.hid hs
  replace hx := Lib.hid hx
  clear hf
  go_enter Tryd.func55, Tryd.ntmps55
  go_wp2_with fail
  refine (get_any b _ _ hb hd).mono ?_
  rintro e w1 ⟨rfl, hb1⟩
  have hB1 := (hb1.block _ hBlt).trans hB
  have hBz : B < w1.heap.size := lt_of hB1
  have c10 : w1.cell? ⟨B, 0, none⟩ = some (.string (mk sb)) := cell_of hB1 rfl
  have c11 : w1.cell? ⟨B, 1, none⟩ = some (.bool so) := cell_of hB1 rfl
  have c12 : w1.cell? ⟨B, 2, none⟩ = some (.int .i64 sa) := cell_of hB1 rfl
  have c13 : w1.cell? ⟨B, 3, none⟩ = some (.int .i64 se) := cell_of hB1 rfl
  have f10 : w1.frozen? ⟨B, 0, none⟩ = false := free_of hB1
  have f11 : w1.frozen? ⟨B, 1, none⟩ = false := free_of hB1
  have f12 : w1.frozen? ⟨B, 2, none⟩ = false := free_of hB1
  have f13 : w1.frozen? ⟨B, 3, none⟩ = false := free_of hB1
  have ho1 := Lib.hid ((Chg.of_below hb1).row ho (fun _ _ => id))
  have hw1 := Lib.hid (hw.trans (hb1.mono hw.size))
  unfold secV
  clear hb1 hs hd hB hBlt hx ho hw
  replace hB1 := Lib.hid hB1
  go_wp2_with fail
  go_quiet (fail)
  go_wp2
  go_region
  all_goals go_wp2
  go_loopw [7] (fun _ wr => Lp w0 B ⟨sb, so, sa, se, sl, sn, sla⟩ xe b1 L wr) (fun _ wr => curLen wr B)
  case atStart =>
    refine ⟨[], b1, ?_, fun _ => by simp, fun _ => ⟨rfl, rfl⟩, by simp⟩
    refine SAt.put (w1 := w1) hB1.out ho1.out hle hw1.out ?_ ?_ (by simp) (by simp)
    · (repeat (first | refine Chg.setCell (S := (· = B)) ?_ (fun _ => rfl) _ | refine Chg.drew ?_)); exact ((Chg.refl _ _).alloc _).drewN _
    · rw [hb1e.out, hL.out, heap_drew]; exact heap_setCell (heap_setCell (heap_setCell (heap_setCell (heap_setCell ((Below.heap_alloc w1 _ B hBz).trans hB1.out) _) _) _) _) _
  case round =>
    clear c10 c11 c12 c13 f10 f11 f12 f13 hB1 ho1 hw1 hb1e t1 t2 t3
    obtain ⟨rs, cur, hS, hd1, hd2, hlen⟩ := hrel
    obtain ⟨v, hB, ho, hle, hw⟩ := hS
    have hBz : B < wr.heap.size := lt_of hB
    have c10 : wr.cell? ⟨B, 0, none⟩ = some (.string (mk cur)) := cell_of hB rfl
    have c11 : wr.cell? ⟨B, 1, none⟩ = some (.bool L) := cell_of hB rfl
    have c12 : wr.cell? ⟨B, 2, none⟩ = some (.int .i64 ((sa : Int) + 1)) := cell_of hB rfl
    have c13 : wr.cell? ⟨B, 3, none⟩ = some (.int .i64 xe) := cell_of hB rfl
    have c14 : wr.cell? ⟨B, 4, none⟩ = some v := cell_of hB rfl
    have f10 : wr.frozen? ⟨B, 0, none⟩ = false := free_of hB
    have f11 : wr.frozen? ⟨B, 1, none⟩ = false := free_of hB
    have f14 : wr.frozen? ⟨B, 4, none⟩ = false := free_of hB
    have f15 : wr.frozen? ⟨B, 5, none⟩ = false := free_of hB
    have f16 : wr.frozen? ⟨B, 6, none⟩ = false := free_of hB
    have hcl : curLen wr B = cur.length := curLen_eq c10
    replace hcl := Lib.hid hcl
    replace hB := Lib.hid hB
    replace ho := Lib.hid ho
    replace hw := Lib.hid hw
    have hcm : cur.length ≤ 4000000 := by omega
    cases L
    · replace hd2 := Lib.hid (hd2 rfl)
      clear hd1
      go_wp2
      go_ret
      obtain ⟨e1, e2⟩ := hd2.out
      subst e1 e2
      refine ⟨rfl, v, ?_, ?_, hle, hw.out⟩
      · rw [hB.out, hsf.out]; simp
      · rw [hsf.out]; simpa using ho.out
    · replace hd1 := Lib.hid (hd1 rfl)
      clear hd2
      by_cases k1 : cur.length < 2
      · have k1' : decide ((2 : Int) ≤ cur.length) = false := by simp; omega
        go_wp2
        go_ret
        have hf1 := hd1.out
        rw [drain_short k1] at hf1
        refine ⟨rfl, v, ?_, ?_, hle, hw.out⟩
        · rw [hB.out, hsf.out, hf1]; simp
        · rw [hsf.out, hf1]; simpa using ho.out
      · have k1' : decide ((2 : Int) ≤ cur.length) = true := by simp; omega
        have k1i : (2 : Int) ≤ cur.length := by omega
        obtain ⟨n, hn⟩ : ∃ n, n = val (cur.take 2) := ⟨_, rfl⟩
        have hn2 : n < 65536 := by have := val_lt (cur.take 2); rw [List.length_take, Nat.min_eq_left (by omega)] at this; omega
        have hs1 := sl_to cur 2 2 rfl (by omega)
        go_wp2_with fail
        refine (value_any _ _ (by simp; omega)).mono ?_
        rintro e w2 ⟨rfl, rfl⟩
        rw [← hn]
        replace hn := Lib.hid hn
        by_cases k2 : n = 0
        · have k2' : ((n : Int) == 0) = true := by rw [beq_iff_eq]; omega
          go_wp2
          go_ret
          have hf1 := hd1.out
          rw [drain_dead (b := cur) (by omega) (by rw [← hn.out]; exact k2)] at hf1
          refine ⟨rfl, SAt.put (n := (sl ++ rs).length) (w1 := wr) hB.out ho.out hle hw.out ?_ ?_ (by rw [hsf.out, hf1]; simp) (by rw [hsf.out, hf1]; simp)⟩
          · refine Chg.setCell (S := (· = B)) ?_ (fun _ => rfl) _; exact Chg.refl _ _
          · have hh := heap_setCell (i := 1) hB.out (.bool false)
            rw [hsf.out, hf1]
            simp only [List.append_nil, if_true]
            exact hh
        · have k2' : ((n : Int) == 0) = false := by rw [beq_eq_false_iff_ne]; omega
          have kw : IntKind.i64.wrap (2 + (n : Int)) = 2 + n := IntWalk.i64_in _ (by omega)
          by_cases k3 : cur.length < 2 + n
          · have k3' : decide ((cur.length : Int) < 2 + n) = true := by simp; omega
            go_wp2
            go_ret
            have hf1 := hd1.out
            rw [drain_part (b := cur) (by omega) (by rw [← hn.out]; exact k2) (by rw [← hn.out]; exact k3)] at hf1
            refine ⟨rfl, v, ?_, ?_, hle, hw.out⟩
            · rw [hB.out, hsf.out, hf1]; simp
            · rw [hsf.out, hf1]; simpa using ho.out
          · have k3' : decide ((cur.length : Int) < 2 + n) = false := by simp; omega
            have hs2 := sl_mid cur 2 n 2 (2 + n) rfl rfl (by omega)
            have hs3 := sl_from cur (2 + n) (2 + n) (by omega) (by omega)
            have hne := row_apart ho.out hB.out
            replace hne := Lib.hid hne
            have hwz := hw.out.size
            have hll : (sl ++ rs).length ≤ 8000000 := by simp only [List.length_append]; omega
            obtain ⟨pc, hpc⟩ : ∃ pc, pc = (cur.drop 2).take n := ⟨_, rfl⟩
            rw [← hpc] at hs2
            replace hpc := Lib.hid hpc
            obtain ⟨ii, hi0, hz0, hz1, hz2⟩ := info_parts Tryd.infoStr
            go_wp2
            go_region_law (refine step_append_own rfl (.tmp 118) (.tmp 126) 56 rfl w0.heap.size 9 ii (.string ByteArray.empty) 1 16 Tryd.underlying56 hi0 hz0 hz1 hz2 rfl (by decide) v _ _ (by simp [Act.eval]) (ho.out.drew.alloc _) ⟨wr.heap.size, 0, none⟩ 1 1 [.string (mk pc)] (by simp [Act.eval]) rfl (by intro j u hj; match j, hj with | 0, hj => (simp at hj; subst hj; simp [Addr.add])) (by intro u hu; simp at hu; subst hu; rfl) (by unfold maxLen; omega) (by omega) (by simp; omega) ?_; intro v' w' hown' hgrow hrow; obtain ⟨ao', m', cap', rfl, hm'⟩ := own_form hown'; replace hm' := Lib.hid hm'; have hB2 := (hgrow.block B (by simp; omega) (fun e => hne.out B e.symm rfl)).trans ((Below.heap_alloc _ _ B hBz).trans hB.out); have hw2 := Lib.hid ((hw.out.drew.alloc hw.out.size _).grown hgrow (by simp; omega) (fun k e => (ho.out.lt k e).1)); have c20 : w'.cell? ⟨B, 0, none⟩ = some (.string (mk cur)) := cell_of hB2 rfl; have c22 : w'.cell? ⟨B, 2, none⟩ = some (.int .i64 ((sa : Int) + 1)) := cell_of hB2 rfl; have c23 : w'.cell? ⟨B, 3, none⟩ = some (.int .i64 xe) := cell_of hB2 rfl; have c24 : w'.cell? ⟨B, 4, none⟩ = some v := cell_of hB2 rfl; have c25 : w'.cell? ⟨B, 5, none⟩ = some (.int .i64 ((if rs = [] then sn else sa + 1 : Nat) : Int)) := cell_of hB2 rfl; have c26 : w'.cell? ⟨B, 6, none⟩ = some (.int .i64 ((if rs = [] then sla else xe : Nat) : Int)) := cell_of hB2 rfl; have f20 : w'.frozen? ⟨B, 0, none⟩ = false := free_of hB2; have f24 : w'.frozen? ⟨B, 4, none⟩ = false := free_of hB2; have f25 : w'.frozen? ⟨B, 5, none⟩ = false := free_of hB2; have f26 : w'.frozen? ⟨B, 6, none⟩ = false := free_of hB2; replace hB2 := Lib.hid hB2; have HO := Lib.hid hown'; clear hown' hgrow hrow)
            all_goals go_wp2
            all_goals go_region
            all_goals
              go_wp2
              go_roundw
              case rel =>
                have hne' : rs ++ [pc] ≠ [] := by simp
                refine ⟨rs ++ [pc], cur.drop (2 + n), ?_, fun _ => ?_, (fun h => by cases h), by simp; omega⟩
                · rw [if_neg hne', if_neg hne']
                  refine SAt.put (w1 := w') (n := (sl ++ rs).length + 1) hB2.out HO.out hle hw2.out ?_ ?_ (by simp; omega) (by simp [scells])
                  · repeat (first | refine Chg.setCell (S := (· = B)) ?_ (fun _ => rfl) _ | refine Chg.drew ?_ | refine Chg.drewN ?_ _)
                    exact Chg.refl _ _
                  · rw [heap_drew]
                    exact heap_setCell (heap_setCell (heap_setCell (heap_setCell hB2.out _) _) _) _
                · rw [hd1.out, drain_more (b := cur) (by omega) (by rw [← hn.out]; exact k2) (by rw [← hn.out]; omega), ← hn.out, ← hpc.out]
                  simp
              case measure =>
                rw [hcl.out, curLen_drew, curLen_heap (l := cur.drop (2 + n)) (heap_setCell (heap_setCell (heap_setCell (heap_setCell hB2.out _) _) _) _) rfl, List.length_drop]
                omega
end Go.Proofs.YtofejnhnnmnfpaaDoor.Fr
/- Scan of package frame. No condition. -/
namespace Go.Proofs.YtofejnhnnmnfpaaDoor.Fr
set_option maxRecDepth 100000
open Go.RowKit

theorem take_fits {s s' : St} {b : List UInt8} (h : take s b = some s') : ∃ x, dec b = some x ∧ fits s x = true ∧ s' = eat s x := by
  cases hd : dec b with
  | none => rw [take, hd] at h; cases h
  | some x =>
    rw [take, hd] at h
    simp only at h
    split at h
    · cases h; exact ⟨x, rfl, ‹_›, rfl⟩
    · cases h
theorem Inv.take {s s' : St} {b : List UInt8} (hi : Inv s) (h : take s b = some s') : Inv s' := by
  obtain ⟨x, hd, hf, rfl⟩ := take_fits h
  exact hi.eat hf (dec_some hd).1
theorem take_some (w0 : World) (B : Nat) (s s' : St) (b : List UInt8) (w : World) (hs : SAt w0 w B s) (hi : Inv s) (hb : b.length ≤ 140737488351232) (h : take s b = some s') :
    Calls Tryd.prog 55 #[.pointer (some ⟨B, 0, none⟩), .string (mk b)] w fun e w' => e = .returned (.bool true) ∧ SAt w0 w' B s' := by
  obtain ⟨x, hd, hf, rfl⟩ := take_fits h
  obtain ⟨xe, xi, xf, xp⟩ := x
  cases xf with
  | false => exact take_later w0 B s xe xi xp b w hs hi hb hd hf
  | true =>
    by_cases c : xe = s.epoch
    · exact take_fresh1 w0 B s xe xi xp b w hs hi hb hd hf c
    · exact take_fresh2 w0 B s xe xi xp b w hs hi hb hd hf c
theorem Inv.start : Inv st0 := by simp [Inv, st0]

set_option maxHeartbeats 1600000 in
theorem scan_any (a : Option Addr) (c : Nat) (l : List (List UInt8)) (r : St) (w : World) (hl : l.length ≤ 1000000) (hlen : ∀ b ∈ l, b.length ≤ 140737488351232) (ha : TAt w a l) (hr : scan st0 l = r) :
    Calls Tryd.prog 30 #[.slice a l.length c] w fun e w' => ∃ v, e = .returned (.tuple #[v, .int .i64 r.end_, .int .i64 r.last]) ∧ w'.ownsRow w.heap.size 9 1 v r.l.length (scells r.l) ∧ Below w.heap.size w w' := by
  replace ha := Lib.hid ha
  replace hlen := Lib.hid hlen
  replace hr := Lib.hid hr
  go_enter Tryd.func30, Tryd.ntmps30
  go_wp2
  go_loopw [12] (fun i wr => ∃ k : Nat, k ≤ l.length ∧ i = .int .i64 k ∧ ∃ s, Hid (Inv s ∧ scan s (l.drop k) = r) ∧ SAt w wr w.heap.size s) (fun i _ => l.length - (intOf i).toNat)
  case atStart =>
    refine ⟨0, Nat.zero_le _, rfl, st0, Lib.hid ⟨Inv.start, hr.out⟩, .slice none 0 0, heap_alloc_new w _, World.ownsRow_nil _ _ _ _, Nat.le_refl _, (Below.refl _ _).alloc (Nat.le_refl _) _⟩
  case round =>
    obtain ⟨k, hk, rfl, s, hs, hS⟩ := hrel
    replace hS := Lib.hid hS
    by_cases hlt : k < l.length
    · obtain ⟨b, o, rfl, hc⟩ := ha.out k hlt
      have hdr : l.drop k = l[k] :: l.drop (k + 1) := List.drop_eq_getElem_cons hlt
      have hmem : l[k] ∈ l := List.getElem_mem hlt
      obtain ⟨x, hx⟩ : ∃ x, x = l[k] := ⟨_, rfl⟩
      rw [← hx] at hc hdr hmem
      have hxl := hlen.out x hmem
      have hw := hS.out
      obtain ⟨v, hB, ho, hle, hbel⟩ := hw
      have hlt' := World.block_lt_of_cell? w _ hc
      have hc' := (hbel.cell (p := ⟨b, o + k, none⟩) hlt').trans hc
      clear hc hbel hB ho hle hmem
      replace hx := Lib.hid hx
      replace hdr := Lib.hid hdr
      replace hlt' := Lib.hid hlt'
      have hr2 := hs.out.2
      rw [hdr.out] at hr2
      cases ht : take s x with
      | none =>
        rw [scan_none _ ht] at hr2
        subst hr2
        go_wp2_with fail
        refine (take_none w w.heap.size s x _ hS.out hs.out.1 hxl ht).mono ?_
        rintro e w2 ⟨rfl, v2, hB2, ho2, _, hw2⟩
        have c4 : w2.cell? ⟨w.heap.size, 4, none⟩ = some v2 := cell_of hB2 rfl
        have c5 : w2.cell? ⟨w.heap.size, 5, none⟩ = some (.int .i64 s.end_) := cell_of hB2 rfl
        have c6 : w2.cell? ⟨w.heap.size, 6, none⟩ = some (.int .i64 s.last) := cell_of hB2 rfl
        replace hB2 := Lib.hid hB2
        replace ho2 := Lib.hid ho2
        replace hw2 := Lib.hid hw2
        go_wp2_with fail
        go_quiet (fail)
        go_wp2
        go_ret3
        exact ⟨_, rfl, ho2.out, Below.drewN hw2.out _⟩
      | some s' =>
        rw [scan_some _ ht] at hr2
        replace hr2 := Lib.hid hr2
        go_wp2_with fail
        refine (take_some w w.heap.size s s' x _ hS.out hs.out.1 hxl ht).mono ?_
        rintro e w2 ⟨rfl, hS2⟩
        replace hS2 := Lib.hid hS2
        go_wp2
        go_roundw
        case rel => exact ⟨k + 1, hlt, by go_num, s', Lib.hid ⟨hs.out.1.take ht, hr2.out⟩, hS2.out⟩
        case measure => simp [intOf]; omega
    · obtain rfl : k = l.length := by omega
      have hr2 := hs.out.2
      rw [List.drop_length, scan] at hr2
      subst hr2
      obtain ⟨v2, hB2, ho2, _, hw2⟩ := hS.out
      have c4 : wr.cell? ⟨w.heap.size, 4, none⟩ = some v2 := cell_of hB2 rfl
      have c5 : wr.cell? ⟨w.heap.size, 5, none⟩ = some (.int .i64 s.end_) := cell_of hB2 rfl
      have c6 : wr.cell? ⟨w.heap.size, 6, none⟩ = some (.int .i64 s.last) := cell_of hB2 rfl
      replace hB2 := Lib.hid hB2
      replace ho2 := Lib.hid ho2
      replace hw2 := Lib.hid hw2
      go_wp2
      go_quiet (fail)
      go_wp2
      go_ret3
      exact ⟨_, rfl, ho2.out, Below.drewN hw2.out _⟩
end Go.Proofs.YtofejnhnnmnfpaaDoor.Fr
