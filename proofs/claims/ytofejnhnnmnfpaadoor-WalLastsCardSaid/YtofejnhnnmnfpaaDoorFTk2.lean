/- take of package frame's scan, where the sector belongs to the log. No condition. -/
import Derived.Test.YtofejnhnnmnfpaaDoorFTs
import Derived.RegionTactic
import Derived.ChangeAlike
namespace Go.Proofs.YtofejnhnnmnfpaaDoor.Fr
set_option maxRecDepth 100000
open Go.RowKit
attribute [local go_sem] mk_size mk_append

/-- In the loop over what was read: rs has been told, cur is left. -/
def Lp (w0 : World) (B : Nat) (s : St) (e : Nat) (b1 : List UInt8) (o : Bool) (wr : World) : Prop :=
  ∃ rs cur, SAt w0 wr B { b := cur, open_ := o, at_ := s.at_ + 1, epoch := e, l := s.l ++ rs, end_ := if rs = [] then s.end_ else s.at_ + 1, last := if rs = [] then s.last else e } ∧
    (o = true → drain b1 = (rs ++ (drain cur).1, (drain cur).2.1, (drain cur).2.2)) ∧ (o = false → rs = [] ∧ cur = b1) ∧ 3 * rs.length + cur.length ≤ b1.length
def curLen (w : World) (B : Nat) : Nat := match w.cell? ⟨B, 0, none⟩ with
  | some (.string s) => s.size
  | _ => 0
theorem curLen_heap {w : World} {B : Nat} {l : List UInt8} {cs : Array Value} {t : TypeId} {f : Nat × Nat} (h : w.heap[B]? = some (.cells cs t f)) (h0 : cs[0]? = some (.string (mk l))) : curLen w B = l.length := by
  rw [curLen, cell_of h h0]
  exact mk_size l
theorem empty_mk (l : List UInt8) : (⟨#[]⟩ : ByteArray) ++ mk l = mk l := mk_append [] l
theorem heap_drew (w : World) : w.drew.heap = w.heap := rfl
theorem curLen_drew (w : World) (B : Nat) : curLen w.drew B = curLen w B := rfl
theorem curLen_eq {w : World} {B : Nat} {l : List UInt8} (h : w.cell? ⟨B, 0, none⟩ = some (.string (mk l))) : curLen w B = l.length := by
  rw [curLen, h]
  exact mk_size l
set_option maxRecDepth 100000 in
set_option maxHeartbeats 8000000 in
theorem take_later (w0 : World) (B : Nat) (s : St) (xe xi : Nat) (xp : List UInt8) (b : List UInt8) (w : World) (hs : SAt w0 w B s) (hi : Inv s) (hb : b.length ≤ 140737488351232) (hd : dec b = some ⟨xe, xi, false, xp⟩) (hf : fits s ⟨xe, xi, false, xp⟩ = true) :
    Calls Tryd.prog 55 #[.pointer (some ⟨B, 0, none⟩), .string (mk b)] w fun e w' => e = .returned (.bool true) ∧ SAt w0 w' B (eat s ⟨xe, xi, false, xp⟩) := by
  obtain ⟨v, hB, ho, hle, hw⟩ := id hs
  obtain ⟨i1, i2, i3, i4, i5⟩ := hi
  have hx := dec_some hd
  obtain ⟨g1, g2, g3, g4, g5, g6⟩ := secOk_iff.1 hx.1
  simp only at g1 g2 g3 g4 g5 g6
  obtain ⟨sb, so, sa, se, sl, sn, sla⟩ := s
  simp only at i1 i2 i3 i4 i5 hB ho
  have hBlt := lt_of hB
  have hff : xi = sa ∧ se ≤ xe ∧ (xe = se ∨ false = true) := by simp [fits] at hf; exact ⟨hf.1.1, hf.1.2, .inl hf.2⟩
  obtain ⟨c1, c2, c3⟩ := hff
  have t1 : ((xi : Int) != sa) = false := by rw [bne_eq_false_iff_eq]; omega
  have t2 : decide (xe < se) = false := by simp; omega
  have t3 : ((xe : Int) != se) = false := by rw [bne_eq_false_iff_eq]; simp at c3; omega
  have hsa : sa ≤ 65535 := by omega
  replace c1 := Lib.hid c1
  replace c3 := Lib.hid c3
  obtain ⟨b1, hb1e⟩ : ∃ b1, b1 = sb ++ xp := ⟨_, rfl⟩
  have hb1l : b1.length ≤ sb.length + 56 := by rw [hb1e]; (try rw [List.length_append]); omega
  have hl1 : 3 * sl.length + b1.length ≤ 56 * sa + 56 := by omega
  have heat : ∀ L : Bool, L = so → eat ⟨sb, so, sa, se, sl, sn, sla⟩ ⟨xe, xi, false, xp⟩ = if L = true then { b := (drain b1).2.1, open_ := (drain b1).2.2, at_ := sa + 1, epoch := xe, l := sl ++ (drain b1).1, end_ := if (drain b1).1 = [] then sn else sa + 1, last := if (drain b1).1 = [] then sla else xe } else { b := b1, open_ := false, at_ := sa + 1, epoch := xe, l := sl, end_ := sn, last := sla } := by
    intro L hL
    subst hL hb1e
    simp [eat]
  obtain ⟨L, hL⟩ : ∃ L : Bool, L = so := ⟨_, rfl⟩
  have hsf := heat L hL
  obtain ⟨sf, hse⟩ : ∃ sf, sf = eat ⟨sb, so, sa, se, sl, sn, sla⟩ ⟨xe, xi, false, xp⟩ := ⟨_, rfl⟩
  rw [← hse] at hsf ⊢
  clear heat hse
  replace hsf := Lib.hid hsf
  replace hL := Lib.hid hL
  replace hb1e := Lib.hid hb1e
  replace hs := Lib.hid hs
  replace hx := Lib.hid hx
  clear hf
  go_enter Tryd.func55, Tryd.ntmps55
  go_wp2_with fail
  refine (get_any b _ _ hb hd).mono ?_
  rintro e w1 ⟨rfl, hb1⟩
  have hB1 := (hb1.block _ hBlt).trans hB
  have hBz : B < w1.heap.size := lt_of hB1
  have c10 : w1.cell? ⟨B, 0, none⟩ = some (.string (mk sb)) := cell_of hB1 rfl
  have c11 : w1.cell? ⟨B, 1, none⟩ = some (.bool so) := cell_of hB1 rfl
  have c12 : w1.cell? ⟨B, 2, none⟩ = some (.int .i64 sa) := cell_of hB1 rfl
  have c13 : w1.cell? ⟨B, 3, none⟩ = some (.int .i64 se) := cell_of hB1 rfl
  have f10 : w1.frozen? ⟨B, 0, none⟩ = false := free_of hB1
  have f11 : w1.frozen? ⟨B, 1, none⟩ = false := free_of hB1
  have f12 : w1.frozen? ⟨B, 2, none⟩ = false := free_of hB1
  have f13 : w1.frozen? ⟨B, 3, none⟩ = false := free_of hB1
  have ho1 := Lib.hid ((Chg.of_below hb1).row ho (fun _ _ => id))
  have hw1 := Lib.hid (hw.trans (hb1.mono hw.size))
  unfold secV
  clear hb1 hs hd hB hBlt hx ho hw
  replace hB1 := Lib.hid hB1
  go_wp2_with fail
  go_quiet (fail)
  go_wp2
  go_region
  all_goals go_wp2
  go_loopw [7] (fun _ wr => Lp w0 B ⟨sb, so, sa, se, sl, sn, sla⟩ xe b1 L wr) (fun _ wr => curLen wr B)
  case atStart =>
    refine ⟨[], b1, ?_, fun _ => by simp, fun _ => ⟨rfl, rfl⟩, by simp⟩
    refine SAt.put (w1 := w1) hB1.out ho1.out hle hw1.out ?_ ?_ (by simp) (by simp)
    · (repeat (first | refine Chg.setCell (S := (· = B)) ?_ (fun _ => rfl) _ | refine Chg.drew ?_)); exact ((Chg.refl _ _).alloc _).drewN _
    · rw [hb1e.out, hL.out]; exact heap_setCell (heap_setCell (heap_setCell ((Below.heap_alloc w1 _ B hBz).trans hB1.out) _) _) _
  case round =>
    clear c10 c11 c12 c13 f10 f11 f12 f13 hB1 ho1 hw1 hb1e t1 t2 t3
    obtain ⟨rs, cur, hS, hd1, hd2, hlen⟩ := hrel
    obtain ⟨v, hB, ho, hle, hw⟩ := hS
    have hBz : B < wr.heap.size := lt_of hB
    have c10 : wr.cell? ⟨B, 0, none⟩ = some (.string (mk cur)) := cell_of hB rfl
    have c11 : wr.cell? ⟨B, 1, none⟩ = some (.bool L) := cell_of hB rfl
    have c12 : wr.cell? ⟨B, 2, none⟩ = some (.int .i64 ((sa : Int) + 1)) := cell_of hB rfl
    have c13 : wr.cell? ⟨B, 3, none⟩ = some (.int .i64 xe) := cell_of hB rfl
    have c14 : wr.cell? ⟨B, 4, none⟩ = some v := cell_of hB rfl
    have f10 : wr.frozen? ⟨B, 0, none⟩ = false := free_of hB
    have f11 : wr.frozen? ⟨B, 1, none⟩ = false := free_of hB
    have f14 : wr.frozen? ⟨B, 4, none⟩ = false := free_of hB
    have f15 : wr.frozen? ⟨B, 5, none⟩ = false := free_of hB
    have f16 : wr.frozen? ⟨B, 6, none⟩ = false := free_of hB
    have hcl : curLen wr B = cur.length := curLen_eq c10
    replace hcl := Lib.hid hcl
    replace hB := Lib.hid hB
    replace ho := Lib.hid ho
    replace hw := Lib.hid hw
    have hcm : cur.length ≤ 4000000 := by omega
    cases L
    · replace hd2 := Lib.hid (hd2 rfl)
      clear hd1
      go_wp2
      go_ret
      obtain ⟨e1, e2⟩ := hd2.out
      subst e1 e2
      refine ⟨rfl, v, ?_, ?_, hle, hw.out⟩
      · rw [hB.out, hsf.out]; simp
      · rw [hsf.out]; simpa using ho.out
    · replace hd1 := Lib.hid (hd1 rfl)
      clear hd2
      by_cases k1 : cur.length < 2
      · have k1' : decide ((2 : Int) ≤ cur.length) = false := by simp; omega
        go_wp2
        go_ret
        have hf1 := hd1.out
        rw [drain_short k1] at hf1
        refine ⟨rfl, v, ?_, ?_, hle, hw.out⟩
        · rw [hB.out, hsf.out, hf1]; simp
        · rw [hsf.out, hf1]; simpa using ho.out
      · have k1' : decide ((2 : Int) ≤ cur.length) = true := by simp; omega
        have k1i : (2 : Int) ≤ cur.length := by omega
        obtain ⟨n, hn⟩ : ∃ n, n = val (cur.take 2) := ⟨_, rfl⟩
        have hn2 : n < 65536 := by have := val_lt (cur.take 2); rw [List.length_take, Nat.min_eq_left (by omega)] at this; omega
        have hs1 := sl_to cur 2 2 rfl (by omega)
        go_wp2_with fail
        refine (value_any _ _ (by simp; omega)).mono ?_
        rintro e w2 ⟨rfl, rfl⟩
        rw [← hn]
        replace hn := Lib.hid hn
        by_cases k2 : n = 0
        · have k2' : ((n : Int) == 0) = true := by rw [beq_iff_eq]; omega
          go_wp2
          go_ret
          have hf1 := hd1.out
          rw [drain_dead (b := cur) (by omega) (by rw [← hn.out]; exact k2)] at hf1
          refine ⟨rfl, SAt.put (n := (sl ++ rs).length) (w1 := wr) hB.out ho.out hle hw.out ?_ ?_ (by rw [hsf.out, hf1]; simp) (by rw [hsf.out, hf1]; simp)⟩
          · refine Chg.setCell (S := (· = B)) ?_ (fun _ => rfl) _; exact Chg.refl _ _
          · have hh := heap_setCell (i := 1) hB.out (.bool false)
            rw [hsf.out, hf1]
            simp only [List.append_nil, if_true]
            exact hh
        · have k2' : ((n : Int) == 0) = false := by rw [beq_eq_false_iff_ne]; omega
          have kw : IntKind.i64.wrap (2 + (n : Int)) = 2 + n := IntWalk.i64_in _ (by omega)
          by_cases k3 : cur.length < 2 + n
          · have k3' : decide ((cur.length : Int) < 2 + n) = true := by simp; omega
            go_wp2
            go_ret
            have hf1 := hd1.out
            rw [drain_part (b := cur) (by omega) (by rw [← hn.out]; exact k2) (by rw [← hn.out]; exact k3)] at hf1
            refine ⟨rfl, v, ?_, ?_, hle, hw.out⟩
            · rw [hB.out, hsf.out, hf1]; simp
            · rw [hsf.out, hf1]; simpa using ho.out
          · have k3' : decide ((cur.length : Int) < 2 + n) = false := by simp; omega
            have hs2 := sl_mid cur 2 n 2 (2 + n) rfl rfl (by omega)
            have hs3 := sl_from cur (2 + n) (2 + n) (by omega) (by omega)
            have hne := row_apart ho.out hB.out
            replace hne := Lib.hid hne
            have hwz := hw.out.size
            have hll : (sl ++ rs).length ≤ 8000000 := by simp only [List.length_append]; omega
            obtain ⟨pc, hpc⟩ : ∃ pc, pc = (cur.drop 2).take n := ⟨_, rfl⟩
            rw [← hpc] at hs2
            replace hpc := Lib.hid hpc
            obtain ⟨ii, hi0, hz0, hz1, hz2⟩ := info_parts Tryd.infoStr
            go_wp2
            go_region_law (refine step_append_own rfl (.tmp 118) (.tmp 126) 56 rfl w0.heap.size 9 ii (.string ByteArray.empty) 1 16 Tryd.underlying56 hi0 hz0 hz1 hz2 rfl (by decide) v _ _ (by simp [Act.eval]) (ho.out.drew.alloc _) ⟨wr.heap.size, 0, none⟩ 1 1 [.string (mk pc)] (by simp [Act.eval]) rfl (by intro j u hj; match j, hj with | 0, hj => (simp at hj; subst hj; simp [Addr.add])) (by intro u hu; simp at hu; subst hu; rfl) (by unfold maxLen; omega) (by omega) (by simp; omega) ?_; intro v' w' hown' hgrow hrow; obtain ⟨ao', m', cap', rfl, hm'⟩ := own_form hown'; replace hm' := Lib.hid hm'; have hB2 := (hgrow.block B (by simp; omega) (fun e => hne.out B e.symm rfl)).trans ((Below.heap_alloc _ _ B hBz).trans hB.out); have hw2 := Lib.hid ((hw.out.drew.alloc hw.out.size _).grown hgrow (by simp; omega) (fun k e => (ho.out.lt k e).1)); have c20 : w'.cell? ⟨B, 0, none⟩ = some (.string (mk cur)) := cell_of hB2 rfl; have c22 : w'.cell? ⟨B, 2, none⟩ = some (.int .i64 ((sa : Int) + 1)) := cell_of hB2 rfl; have c23 : w'.cell? ⟨B, 3, none⟩ = some (.int .i64 xe) := cell_of hB2 rfl; have c24 : w'.cell? ⟨B, 4, none⟩ = some v := cell_of hB2 rfl; have c25 : w'.cell? ⟨B, 5, none⟩ = some (.int .i64 ((if rs = [] then sn else sa + 1 : Nat) : Int)) := cell_of hB2 rfl; have c26 : w'.cell? ⟨B, 6, none⟩ = some (.int .i64 ((if rs = [] then sla else xe : Nat) : Int)) := cell_of hB2 rfl; have f20 : w'.frozen? ⟨B, 0, none⟩ = false := free_of hB2; have f24 : w'.frozen? ⟨B, 4, none⟩ = false := free_of hB2; have f25 : w'.frozen? ⟨B, 5, none⟩ = false := free_of hB2; have f26 : w'.frozen? ⟨B, 6, none⟩ = false := free_of hB2; replace hB2 := Lib.hid hB2; have HO := Lib.hid hown'; clear hown' hgrow hrow)
            all_goals go_wp2
            all_goals go_region
            all_goals
              go_wp2
              go_roundw
              case rel =>
                have hne' : rs ++ [pc] ≠ [] := by simp
                refine ⟨rs ++ [pc], cur.drop (2 + n), ?_, fun _ => ?_, (fun h => by cases h), by simp; omega⟩
                · rw [if_neg hne', if_neg hne']
                  refine SAt.put (w1 := w') (n := (sl ++ rs).length + 1) hB2.out HO.out hle hw2.out ?_ ?_ (by simp; omega) (by simp [scells])
                  · repeat (first | refine Chg.setCell (S := (· = B)) ?_ (fun _ => rfl) _ | refine Chg.drew ?_ | refine Chg.drewN ?_ _)
                    exact Chg.refl _ _
                  · rw [heap_drew]
                    exact heap_setCell (heap_setCell (heap_setCell (heap_setCell hB2.out _) _) _) _
                · rw [hd1.out, drain_more (b := cur) (by omega) (by rw [← hn.out]; exact k2) (by rw [← hn.out]; omega), ← hn.out, ← hpc.out]
                  simp
              case measure =>
                rw [hcl.out, curLen_drew, curLen_heap (l := cur.drop (2 + n)) (heap_setCell (heap_setCell (heap_setCell (heap_setCell hB2.out _) _) _) _) rfl, List.length_drop]
                omega
end Go.Proofs.YtofejnhnnmnfpaaDoor.Fr
