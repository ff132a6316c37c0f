/- Which numbers, cells, patches, pages may be, by the document. No condition. -/
import Derived.Test.YtofejnhnnmnfpaaDoorRCs
import Derived.Test.YtofejnhnnmnfpaaDoorRecQ
namespace Go.Proofs.YtofejnhnnmnfpaaDoor.Rc
set_option maxRecDepth 100000
open Go.RowKit
theorem rtwo_any' (x : Int) (w : World) : Calls Tryd.prog 37 #[.int .i64 x] w fun e w' => e = .returned (.bool (decide (0 ≤ x) && decide (x ≤ 65535))) ∧ w = w' := by
  by_cases h1 : 0 ≤ x
  · go_enter Tryd.func37, Tryd.ntmps37
    go_wp2
    go_ret
    exact ⟨by simp [h1], rfl⟩
  · have h2 : (decide (0 ≤ x) && decide (x ≤ 65535)) = false := by rw [decide_eq_false h1]; rfl
    rw [h2]
    go_enter Tryd.func37, Tryd.ntmps37
    go_wp2
    go_ret
    exact ⟨rfl, rfl⟩
theorem rfour_any' (x : Int) (w : World) : Calls Tryd.prog 38 #[.int .i64 x] w fun e w' => e = .returned (.bool (decide (0 ≤ x) && decide (x ≤ 4294967295))) ∧ w = w' := by
  by_cases h1 : 0 ≤ x
  · go_enter Tryd.func38, Tryd.ntmps38
    go_wp2
    go_ret
    exact ⟨by simp [h1], rfl⟩
  · have h2 : (decide (0 ≤ x) && decide (x ≤ 4294967295)) = false := by rw [decide_eq_false h1]; rfl
    rw [h2]
    go_enter Tryd.func38, Tryd.ntmps38
    go_wp2
    go_ret
    exact ⟨rfl, rfl⟩
theorem rtwo_any (x : Int) (w : World) : Calls Tryd.prog 37 #[.int .i64 x] w fun e w' => e = .returned (.bool (short x)) ∧ w = w' := rtwo_any' x w
theorem rfour_any (x : Int) (w : World) : Calls Tryd.prog 38 #[.int .i64 x] w fun e w' => e = .returned (.bool (long x)) ∧ w = w' := rfour_any' x w
theorem rkey_any (s : List UInt8) (w : World) : Calls Tryd.prog 71 #[.string (mk s)] w fun e w' => e = .returned (.bool (decide (s ≠ []) && decide (s.length ≤ 16))) ∧ w = w' := by
  by_cases h : s = []
  · subst h
    go_enter Tryd.func71, Tryd.ntmps71
    go_wp2
    go_ret
    exact ⟨rfl, rfl⟩
  · obtain ⟨e0, e1⟩ := mk_ne s h
    have hsz := mk_size s
    have hge : (1 : Int) ≤ (((mk s).size : Nat) : Int) := by have := List.length_pos_iff.2 h; omega
    by_cases h1 : s.length ≤ 16
    · have h2 : (((mk s).size : Nat) : Int) ≤ 16 := by omega
      rw [show (decide (s ≠ []) && decide (s.length ≤ 16)) = true by simp [h, h1]]
      clear hsz h1
      go_enter Tryd.func71, Tryd.ntmps71
      go_wp2
      go_ret
      exact ⟨rfl, rfl⟩
    · have h2 : ¬ (((mk s).size : Nat) : Int) ≤ 16 := by omega
      rw [show (decide (s ≠ []) && decide (s.length ≤ 16)) = false by simp [h1]]
      clear hsz h1
      go_enter Tryd.func71, Tryd.ntmps71
      go_wp2
      go_ret
      exact ⟨rfl, rfl⟩
set_option maxRecDepth 100000 in
set_option maxHeartbeats 1600000 in
theorem rcell_any (c : Cl) (w : World) : Calls Tryd.prog 39 #[.agg #[.string (mk c.key), .string (mk c.val), .int .i64 c.blob, .int .i64 c.size]] w fun e w' => e = .returned (.bool (cellOk c)) ∧ Below w.heap.size w w' := by
  obtain ⟨key, val, blob, size⟩ := c
  simp only
  have K := fun w => rkey_any key w
  have hsz := mk_size val
  obtain ⟨r, hr⟩ : ∃ r, r = cellOk ⟨key, val, blob, size⟩ := ⟨_, rfl⟩
  rw [← hr]
  simp only [cellOk] at hr
  cases hk : (decide (key ≠ []) && decide (key.length ≤ 16)) with
  | false =>
    rw [hk] at hr
    simp only [hk] at K
    simp only [Bool.false_and] at hr
    subst hr
    replace K := Lib.hid K
    clear hk hsz
    go_enter Tryd.func39, Tryd.ntmps39
    go_wp2_with fail
    refine (K.out _).mono ?_
    rintro e w1 ⟨rfl, rfl⟩
    go_wp2
    go_ret
    exact ⟨rfl, (Below.refl _ _).alloc (Nat.le_refl _) _⟩
  | true =>
    rw [hk] at hr
    simp only [hk] at K
    simp only [Bool.true_and] at hr
    replace K := Lib.hid K
    clear hk
    by_cases hb : blob = 0
    · rw [if_pos hb] at hr
      subst hb
      by_cases h1 : val.length ≤ 40
      · have h2 : (((mk val).size : Nat) : Int) ≤ 40 := by omega
        by_cases h3 : size = 0
        · subst h3
          rw [show r = true by rw [hr]; simp [h1]]
          clear hr h1 hsz
          go_enter Tryd.func39, Tryd.ntmps39
          go_wp2_with fail
          refine (K.out _).mono ?_
          rintro e w1 ⟨rfl, rfl⟩
          go_wp2
          go_ret
          exact ⟨rfl, (Below.refl _ _).alloc (Nat.le_refl _) _⟩
        · have h4 : (size == 0) = false := by rw [beq_eq_false_iff_ne]; exact h3
          rw [show r = false by rw [hr]; simp [h3]]
          clear hr h1 hsz h3
          go_enter Tryd.func39, Tryd.ntmps39
          go_wp2_with fail
          refine (K.out _).mono ?_
          rintro e w1 ⟨rfl, rfl⟩
          go_wp2
          go_ret
          exact ⟨rfl, (Below.refl _ _).alloc (Nat.le_refl _) _⟩
      · have h2 : ¬ (((mk val).size : Nat) : Int) ≤ 40 := by omega
        rw [show r = false by rw [hr]; simp [h1]]
        clear hr h1 hsz
        go_enter Tryd.func39, Tryd.ntmps39
        go_wp2_with fail
        refine (K.out _).mono ?_
        rintro e w1 ⟨rfl, rfl⟩
        go_wp2
        go_ret
        exact ⟨rfl, (Below.refl _ _).alloc (Nat.le_refl _) _⟩
    · rw [if_neg hb] at hr
      have hb' : (blob == 0) = false := by rw [beq_eq_false_iff_ne]; exact hb
      by_cases c1 : 2 ≤ blob
      case neg =>
        rw [show r = false by rw [hr]; simp [c1]]
        clear hr hsz hb
        go_enter Tryd.func39, Tryd.ntmps39
        go_wp2_with fail
        refine (K.out _).mono ?_
        rintro e w1 ⟨rfl, rfl⟩
        go_wp2
        go_ret
        exact ⟨rfl, (Below.refl _ _).alloc (Nat.le_refl _) _⟩
      by_cases c2 : blob < 64
      case neg =>
        rw [show r = false by rw [hr]; simp [c2]]
        clear hr hsz hb
        go_enter Tryd.func39, Tryd.ntmps39
        go_wp2_with fail
        refine (K.out _).mono ?_
        rintro e w1 ⟨rfl, rfl⟩
        go_wp2
        go_ret
        exact ⟨rfl, (Below.refl _ _).alloc (Nat.le_refl _) _⟩
      by_cases c3 : val = []
      case neg =>
        rw [show r = false by rw [hr]; simp [c3]]
        obtain ⟨e0, e1⟩ := mk_ne val c3
        clear hr hsz hb
        go_enter Tryd.func39, Tryd.ntmps39
        go_wp2_with fail
        refine (K.out _).mono ?_
        rintro e w1 ⟨rfl, rfl⟩
        go_wp2
        go_ret
        exact ⟨rfl, (Below.refl _ _).alloc (Nat.le_refl _) _⟩
      subst c3
      by_cases c4 : 40 < size
      case neg =>
        rw [show r = false by rw [hr]; simp [c4]]
        clear hr hsz hb
        go_enter Tryd.func39, Tryd.ntmps39
        go_wp2_with fail
        refine (K.out _).mono ?_
        rintro e w1 ⟨rfl, rfl⟩
        go_wp2
        go_ret
        exact ⟨rfl, (Below.refl _ _).alloc (Nat.le_refl _) _⟩
      rw [show r = decide (size ≤ 400) by rw [hr]; simp [c1, c2, c4]]
      clear hr hsz hb
      go_enter Tryd.func39, Tryd.ntmps39
      go_wp2_with fail
      refine (K.out _).mono ?_
      rintro e w1 ⟨rfl, rfl⟩
      go_wp2
      go_ret
      exact ⟨rfl, (Below.refl _ _).alloc (Nat.le_refl _) _⟩
set_option maxRecDepth 100000 in
set_option maxHeartbeats 1600000 in
theorem rpat_any (p : Pt) (w : World) : Calls Tryd.prog 41 #[.agg #[.int .i64 p.page, .int .i64 p.at_, .string (mk p.bytes)]] w fun e w' => e = .returned (.bool (patOk p)) ∧ Below w.heap.size w w' := by
  obtain ⟨page, at_, bytes⟩ := p
  simp only
  have hsz := mk_size bytes
  obtain ⟨r, hr⟩ : ∃ r, r = patOk ⟨page, at_, bytes⟩ := ⟨_, rfl⟩
  rw [← hr]
  simp only [patOk] at hr
  by_cases c0 : 0 ≤ page
  case neg =>
    rw [show r = false by rw [hr]; simp [c0]]
    clear hr hsz
    go_enter Tryd.func41, Tryd.ntmps41
    go_wp2
    go_ret
    exact ⟨rfl, (Below.refl _ _).alloc (Nat.le_refl _) _⟩
  by_cases c1 : page < 64
  case neg =>
    rw [show r = false by rw [hr]; simp [c1]]
    clear hr hsz
    go_enter Tryd.func41, Tryd.ntmps41
    go_wp2
    go_ret
    exact ⟨rfl, (Below.refl _ _).alloc (Nat.le_refl _) _⟩
  by_cases c2 : 0 ≤ at_
  case neg =>
    rw [show r = false by rw [hr]; simp [c2]]
    clear hr hsz
    go_enter Tryd.func41, Tryd.ntmps41
    go_wp2
    go_ret
    exact ⟨rfl, (Below.refl _ _).alloc (Nat.le_refl _) _⟩
  by_cases c3 : at_ < 256
  case neg =>
    rw [show r = false by rw [hr]; simp [c3]]
    clear hr hsz
    go_enter Tryd.func41, Tryd.ntmps41
    go_wp2
    go_ret
    exact ⟨rfl, (Below.refl _ _).alloc (Nat.le_refl _) _⟩
  by_cases c4 : bytes = []
  · subst c4
    rw [show r = false by rw [hr]; simp]
    clear hr hsz
    go_enter Tryd.func41, Tryd.ntmps41
    go_wp2
    go_ret
    exact ⟨rfl, (Below.refl _ _).alloc (Nat.le_refl _) _⟩
  obtain ⟨e0, e1⟩ := mk_ne bytes c4
  by_cases c5 : (bytes.length : Int) ≤ 256 - at_
  · have h2 : (((mk bytes).size : Nat) : Int) ≤ 256 - at_ := by omega
    rw [show r = true by rw [hr]; simp [c0, c1, c2, c3, c4, c5]]
    clear hr hsz c5
    go_enter Tryd.func41, Tryd.ntmps41
    go_wp2
    go_ret
    exact ⟨rfl, (Below.refl _ _).alloc (Nat.le_refl _) _⟩
  · have h2 : ¬ (((mk bytes).size : Nat) : Int) ≤ 256 - at_ := by omega
    rw [show r = false by rw [hr]; simp [c5]]
    clear hr hsz c5
    go_enter Tryd.func41, Tryd.ntmps41
    go_wp2
    go_ret
    exact ⟨rfl, (Below.refl _ _).alloc (Nat.le_refl _) _⟩
set_option maxRecDepth 100000 in
set_option maxHeartbeats 1600000 in
theorem rpages_any (v : Value) (l : List Int) (w : World) (h : IsI w v l) (hl : l.length ≤ 9223372036854775807) :
    Calls Tryd.prog 40 #[v] w fun e w' => e = .returned (.bool (pagesOk l)) ∧ w = w' := by
  obtain ⟨a, c, rfl, hA⟩ := h
  replace hA := Lib.hid hA
  obtain ⟨r, hr⟩ : ∃ r, r = pagesOk l := ⟨_, rfl⟩
  rw [← hr]
  replace hr := Lib.hid hr
  go_enter Tryd.func40, Tryd.ntmps40
  go_wp2
  go_loop [3] (fun i => ∃ k : Nat, k ≤ l.length ∧ i = .int .i64 k ∧ Aside (∀ j (hj : j < k) (hl : j < l.length), short l[j] = true)) (fun i => l.length - (intOf i).toNat)
  case atStart => exact ⟨0, Nat.zero_le _, rfl, fun j hj => by omega⟩
  case round =>
    obtain ⟨k, hk, rfl, hI⟩ := hrel
    have i1 := Lib.hid hI.out
    clear hI
    by_cases hlt : k < l.length
    · obtain ⟨b, o, rfl, hc⟩ := hA.out k hlt
      obtain ⟨x, hx⟩ : ∃ x, x = l[k] := ⟨_, rfl⟩
      rw [← hx] at hc
      have hki : (k : Int) < l.length := by omega
      have C := rtwo_any x w
      cases hs : short x with
      | true =>
        rw [hs] at C
        replace C := Lib.hid C
        replace hx := Lib.hid hx
        replace hs := Lib.hid hs
        go_wp2_with fail
        refine C.out.mono ?_
        rintro e w1 ⟨rfl, hz⟩
        obtain rfl := hz.symm
        clear hz
        go_wp2
        go_round
        case rel => exact ⟨k + 1, hlt, by go_num, fun j hj hl => by
          by_cases e : j = k
          · subst e; rw [← hx.out]; exact hs.out
          · exact i1.out j (by omega) hl⟩
        case measure => simp [intOf]; omega
      | false =>
        rw [hs] at C
        have hr1 : r = false := by
          rw [hr.out, pagesOk, all_split short l k hlt (fun j hj => i1.out j hj (by omega)) (by rw [← hx]; exact hs), Bool.and_false]
        subst hr1
        replace C := Lib.hid C
        replace hx := Lib.hid hx
        clear hr hs i1
        go_wp2_with fail
        refine C.out.mono ?_
        rintro e w1 ⟨rfl, hz⟩
        obtain rfl := hz.symm
        clear hz
        go_wp2
        go_ret
        exact ⟨rfl, rfl⟩
    · obtain rfl : k = l.length := by omega
      have hall : l.all short = true := all_done short l (fun j hj => i1.out j hj hj)
      have hr1 : decide ((l.length : Int) ≤ 64) = r := by
        rw [hr.out, pagesOk, hall, Bool.and_true]
        by_cases c : l.length ≤ 64
        · simp; omega
        · simp; omega
      replace hr1 := Lib.hid hr1
      clear hr hall i1
      go_wp2
      go_ret
      exact ⟨congrArg (fun b => Ending.returned (Value.bool b)) hr1.out, rfl⟩
end Go.Proofs.YtofejnhnnmnfpaaDoor.Rc
/- Which records may be, by the document. No condition. -/

namespace Go.Proofs.YtofejnhnnmnfpaaDoor.Rc
set_option maxRecDepth 100000
open Go.RowKit
set_option maxRecDepth 100000 in
set_option maxHeartbeats 6400000 in
theorem rright_any (v vp vt vx vd : Value) (r : Rec) (w : World) (h : RecAt w v vp vt vx vd r) (hs1 : r.pages.length ≤ 9223372036854775807) (hs5 : ∀ t ∈ r.txs, t.pages.length ≤ 9223372036854775807) : Calls Tryd.prog 19 #[v] w fun e w' => e = .returned (.bool (recOk r)) ∧ Below w.heap.size w w' := by
  obtain ⟨rfl, hp, ht, hx, hd⟩ := h
  obtain ⟨kind, tx, prev, next, key, had, ⟨ok, ov, ob, os⟩, pages, pats, txs, dirty⟩ := r
  simp only at hp ht hx hd hs1 hs5 ⊢
  replace hs5 := Lib.hid hs5
  obtain ⟨res, hr⟩ : ∃ x, x = recOk ⟨kind, tx, prev, next, key, had, ⟨ok, ov, ob, os⟩, pages, pats, txs, dirty⟩ := ⟨_, rfl⟩
  rw [← hr]
  simp only [recOk] at hr
  have hw0 : ∀ o, Below w.heap.size w (w.alloc o) := fun o => (Below.refl _ _).alloc (Nat.le_refl _) o
  obtain ⟨oB, hoB⟩ : ∃ oB, oB = Obj.cells #[.int .i64 kind, .int .i64 tx, .int .i64 prev, .int .i64 next, .string (mk key), .bool had, .string (mk ok), .string (mk ov), .int .i64 ob, .int .i64 os, vp, vt, vx, vd] 37 := ⟨_, rfl⟩
  have hW : ∀ w1, w1 = w.alloc oB → Below w.heap.size w w1 ∧ w1.heap[w.heap.size]? = some (.cells #[.int .i64 kind, .int .i64 tx, .int .i64 prev, .int .i64 next, .string (mk key), .bool had, .string (mk ok), .string (mk ov), .int .i64 ob, .int .i64 os, vp, vt, vx, vd] 37 (0, 0)) := fun w1 e => by rw [e, hoB]; exact ⟨hw0 _, heap_alloc_new w _⟩
  replace hoB := Lib.hid hoB
  replace hW := Lib.hid hW
  have hsz := mk_size key
  clear hw0
  by_cases c0 : 1 ≤ kind ∧ kind ≤ 7
  case neg =>
    rw [show res = false by rw [hr]; simp only [Bool.and_eq_false_iff, decide_eq_false_iff_not]; omega]
    clear hr hp ht hx hd hsz
    by_cases k0 : kind < 1
    · clear c0
      go_enter Tryd.func19, Tryd.ntmps19
      go_upto_region 1 with (fail)
      simp only [List.append_eq, List.cons_append, List.nil_append]
      rw [← hoB.out]
      obtain ⟨w1, hw1⟩ : ∃ w1, w1 = w.alloc oB := ⟨_, rfl⟩
      rw [← hw1]
      obtain ⟨hb, hO0⟩ := hW.out w1 hw1
      replace hO0 := Lib.hid hO0
      clear hw1
      obtain ⟨⟨d0, d1, d2, d3, d4, d5, d6⟩, ⟨d7, d8, d9, d10, d11, d12, d13⟩, hl1⟩ := rec_cells hO0.out
      replace hb := Lib.hid hb
      go_wp2
      go_ret
      exact ⟨rfl, hb.out⟩
    · have k1 : 7 < kind := by omega
      clear c0
      go_enter Tryd.func19, Tryd.ntmps19
      go_upto_region 1 with (fail)
      simp only [List.append_eq, List.cons_append, List.nil_append]
      rw [← hoB.out]
      obtain ⟨w1, hw1⟩ : ∃ w1, w1 = w.alloc oB := ⟨_, rfl⟩
      rw [← hw1]
      obtain ⟨hb, hO0⟩ := hW.out w1 hw1
      replace hO0 := Lib.hid hO0
      clear hw1
      obtain ⟨⟨d0, d1, d2, d3, d4, d5, d6⟩, ⟨d7, d8, d9, d10, d11, d12, d13⟩, hl1⟩ := rec_cells hO0.out
      replace hb := Lib.hid hb
      go_wp2
      go_ret
      exact ⟨rfl, hb.out⟩
  have k0 : ¬ kind < 1 := by omega
  have k1 : ¬ 7 < kind := by omega
  have hr1 : res = (short tx && long prev && long next && decide (key.length ≤ 255) && (decide ((⟨ok, ov, ob, os⟩ : Cl) = Cl.zero) || cellOk ⟨ok, ov, ob, os⟩) && pagesOk pages && decide (pats.length ≤ 40) && decide (txs.length ≤ 8) && decide (dirty.length ≤ 64) && pats.all patOk && txs.all txOk && dirty.all dirOk) := by rw [hr]; simp [c0]
  have hC1 := fun w => rtwo_any tx w
  have hC2 := fun w => rfour_any prev w
  have hC3 := fun w => rfour_any next w
  clear hr
  cases c1 : short tx
  case false =>
    simp only [c1] at hC1 hr1
    simp only [Bool.false_and] at hr1
    subst hr1
    replace hC1 := Lib.hid hC1
    clear hp ht hx hd hsz hC2 hC3
    go_enter Tryd.func19, Tryd.ntmps19
    go_upto_region 1 with (fail)
    simp only [List.append_eq, List.cons_append, List.nil_append]
    rw [← hoB.out]
    obtain ⟨w1, hw1⟩ : ∃ w1, w1 = w.alloc oB := ⟨_, rfl⟩
    rw [← hw1]
    obtain ⟨hb, hO0⟩ := hW.out w1 hw1
    replace hO0 := Lib.hid hO0
    clear hw1
    obtain ⟨⟨d0, d1, d2, d3, d4, d5, d6⟩, ⟨d7, d8, d9, d10, d11, d12, d13⟩, hl1⟩ := rec_cells hO0.out
    replace hb := Lib.hid hb
    go_wp2_with fail
    refine (hC1.out _).mono ?_
    rintro e w' ⟨rfl, rfl⟩
    go_wp2
    go_ret
    exact ⟨rfl, hb.out⟩
  simp only [c1] at hC1 hr1
  simp only [Bool.true_and] at hr1
  replace hC1 := Lib.hid hC1
  cases c2 : long prev
  case false =>
    simp only [c2] at hC2 hr1
    simp only [Bool.false_and] at hr1
    subst hr1
    replace hC2 := Lib.hid hC2
    clear hp ht hx hd hsz hC3
    go_enter Tryd.func19, Tryd.ntmps19
    go_upto_region 1 with (fail)
    simp only [List.append_eq, List.cons_append, List.nil_append]
    rw [← hoB.out]
    obtain ⟨w1, hw1⟩ : ∃ w1, w1 = w.alloc oB := ⟨_, rfl⟩
    rw [← hw1]
    obtain ⟨hb, hO0⟩ := hW.out w1 hw1
    replace hO0 := Lib.hid hO0
    clear hw1
    obtain ⟨⟨d0, d1, d2, d3, d4, d5, d6⟩, ⟨d7, d8, d9, d10, d11, d12, d13⟩, hl1⟩ := rec_cells hO0.out
    replace hb := Lib.hid hb
    go_wp2_with fail
    refine (hC1.out _).mono ?_
    rintro e w' ⟨rfl, rfl⟩
    go_wp2_with fail
    refine (hC2.out _).mono ?_
    rintro e w' ⟨rfl, rfl⟩
    go_wp2
    go_ret
    exact ⟨rfl, hb.out⟩
  simp only [c2] at hC2 hr1
  simp only [Bool.true_and] at hr1
  replace hC2 := Lib.hid hC2
  cases c3 : long next
  case false =>
    simp only [c3] at hC3 hr1
    simp only [Bool.false_and] at hr1
    subst hr1
    replace hC3 := Lib.hid hC3
    clear hp ht hx hd hsz 
    go_enter Tryd.func19, Tryd.ntmps19
    go_upto_region 1 with (fail)
    simp only [List.append_eq, List.cons_append, List.nil_append]
    rw [← hoB.out]
    obtain ⟨w1, hw1⟩ : ∃ w1, w1 = w.alloc oB := ⟨_, rfl⟩
    rw [← hw1]
    obtain ⟨hb, hO0⟩ := hW.out w1 hw1
    replace hO0 := Lib.hid hO0
    clear hw1
    obtain ⟨⟨d0, d1, d2, d3, d4, d5, d6⟩, ⟨d7, d8, d9, d10, d11, d12, d13⟩, hl1⟩ := rec_cells hO0.out
    replace hb := Lib.hid hb
    go_wp2_with fail
    refine (hC1.out _).mono ?_
    rintro e w' ⟨rfl, rfl⟩
    go_wp2_with fail
    refine (hC2.out _).mono ?_
    rintro e w' ⟨rfl, rfl⟩
    go_wp2_with fail
    refine (hC3.out _).mono ?_
    rintro e w' ⟨rfl, rfl⟩
    go_wp2
    go_ret
    exact ⟨rfl, hb.out⟩
  simp only [c3] at hC3 hr1
  simp only [Bool.true_and] at hr1
  replace hC3 := Lib.hid hC3
  by_cases c4 : key.length ≤ 255
  case neg =>
    have h4 : (255 : Int) < (((mk key).size : Nat) : Int) := by omega
    rw [show res = false by rw [hr1]; simp [c4]]
    clear hp ht hx hd hsz c4 hr1
    go_enter Tryd.func19, Tryd.ntmps19
    go_upto_region 1 with (fail)
    simp only [List.append_eq, List.cons_append, List.nil_append]
    rw [← hoB.out]
    obtain ⟨w1, hw1⟩ : ∃ w1, w1 = w.alloc oB := ⟨_, rfl⟩
    rw [← hw1]
    obtain ⟨hb, hO0⟩ := hW.out w1 hw1
    replace hO0 := Lib.hid hO0
    clear hw1
    obtain ⟨⟨d0, d1, d2, d3, d4, d5, d6⟩, ⟨d7, d8, d9, d10, d11, d12, d13⟩, hl1⟩ := rec_cells hO0.out
    replace hb := Lib.hid hb
    go_wp2_with fail
    refine (hC1.out _).mono ?_
    rintro e w' ⟨rfl, rfl⟩
    go_wp2_with fail
    refine (hC2.out _).mono ?_
    rintro e w' ⟨rfl, rfl⟩
    go_wp2_with fail
    refine (hC3.out _).mono ?_
    rintro e w' ⟨rfl, rfl⟩
    go_wp2
    go_ret
    exact ⟨rfl, hb.out⟩
  have h4 : ¬ (255 : Int) < (((mk key).size : Nat) : Int) := by omega
  have hr2 : res = ((decide ((⟨ok, ov, ob, os⟩ : Cl) = Cl.zero) || cellOk ⟨ok, ov, ob, os⟩) && pagesOk pages && decide (pats.length ≤ 40) && decide (txs.length ≤ 8) && decide (dirty.length ≤ 64) && pats.all patOk && txs.all txOk && dirty.all dirOk) := by rw [hr1]; simp [c4]
  clear hr1 hsz c4
  have hK := fun w => rcell_any ⟨ok, ov, ob, os⟩ w
  simp only at hK
  by_cases z1 : ok = []
  case pos =>
    subst z1
    by_cases z2 : ov = []
    case neg =>
      have z2' : ov.isEmpty = false := by simpa using z2
      rw [show res = false by rw [hr2]; simp [Cl.zero, cellOk, z2]]
      rw [show cellOk ⟨[], ov, ob, os⟩ = false by simp [cellOk]] at hK
      replace hK := Lib.hid hK
      clear hp ht hx hd hr2
      go_enter Tryd.func19, Tryd.ntmps19
      go_upto_region 1 with (fail)
      simp only [List.append_eq, List.cons_append, List.nil_append]
      rw [← hoB.out]
      obtain ⟨w1, hw1⟩ : ∃ w1, w1 = w.alloc oB := ⟨_, rfl⟩
      rw [← hw1]
      obtain ⟨hb, hO0⟩ := hW.out w1 hw1
      replace hO0 := Lib.hid hO0
      clear hw1
      obtain ⟨⟨d0, d1, d2, d3, d4, d5, d6⟩, ⟨d7, d8, d9, d10, d11, d12, d13⟩, hl1⟩ := rec_cells hO0.out
      have hO := hO0.out
      replace hb := Lib.hid hb
      go_wp2_with fail
      refine (hC1.out _).mono ?_
      rintro e w' ⟨rfl, rfl⟩
      go_wp2_with fail
      refine (hC2.out _).mono ?_
      rintro e w' ⟨rfl, rfl⟩
      go_wp2_with fail
      refine (hC3.out _).mono ?_
      rintro e w' ⟨rfl, rfl⟩
      go_wp2_with fail
      refine (hK.out _).mono ?_
      rintro e w2 ⟨rfl, hb2⟩
      replace hO := (Chg.of_below (S := fun _ => False) hb2).heap hO id
      clear d0 d1 d2 d3 d4 d5 d6 d7 d8 d9 d10 d11 d12 d13 hl1
      obtain ⟨⟨d0, d1, d2, d3, d4, d5, d6⟩, ⟨d7, d8, d9, d10, d11, d12, d13⟩, hl1⟩ := rec_cells hO
      replace hb := Lib.hid (hb.out.trans (hb2.mono hb.out.size))
      clear hb2
      go_wp2
      go_ret
      exact ⟨rfl, hb.out⟩
    subst z2
    by_cases z3 : ob = 0
    case neg =>
      have z3' : (ob == 0) = false := by rw [beq_eq_false_iff_ne]; exact z3
      rw [show res = false by rw [hr2]; simp [Cl.zero, cellOk, z3]]
      rw [show cellOk ⟨[], [], ob, os⟩ = false by simp [cellOk]] at hK
      replace hK := Lib.hid hK
      clear hp ht hx hd hr2
      go_enter Tryd.func19, Tryd.ntmps19
      go_upto_region 1 with (fail)
      simp only [List.append_eq, List.cons_append, List.nil_append]
      rw [← hoB.out]
      obtain ⟨w1, hw1⟩ : ∃ w1, w1 = w.alloc oB := ⟨_, rfl⟩
      rw [← hw1]
      obtain ⟨hb, hO0⟩ := hW.out w1 hw1
      replace hO0 := Lib.hid hO0
      clear hw1
      obtain ⟨⟨d0, d1, d2, d3, d4, d5, d6⟩, ⟨d7, d8, d9, d10, d11, d12, d13⟩, hl1⟩ := rec_cells hO0.out
      have hO := hO0.out
      replace hb := Lib.hid hb
      go_wp2_with fail
      refine (hC1.out _).mono ?_
      rintro e w' ⟨rfl, rfl⟩
      go_wp2_with fail
      refine (hC2.out _).mono ?_
      rintro e w' ⟨rfl, rfl⟩
      go_wp2_with fail
      refine (hC3.out _).mono ?_
      rintro e w' ⟨rfl, rfl⟩
      go_wp2_with fail
      refine (hK.out _).mono ?_
      rintro e w2 ⟨rfl, hb2⟩
      replace hO := (Chg.of_below (S := fun _ => False) hb2).heap hO id
      clear d0 d1 d2 d3 d4 d5 d6 d7 d8 d9 d10 d11 d12 d13 hl1
      obtain ⟨⟨d0, d1, d2, d3, d4, d5, d6⟩, ⟨d7, d8, d9, d10, d11, d12, d13⟩, hl1⟩ := rec_cells hO
      replace hb := Lib.hid (hb.out.trans (hb2.mono hb.out.size))
      clear hb2
      go_wp2
      go_ret
      exact ⟨rfl, hb.out⟩
    subst z3
    by_cases z4 : os = 0
    case neg =>
      have z4' : (os == 0) = false := by rw [beq_eq_false_iff_ne]; exact z4
      rw [show res = false by rw [hr2]; simp [Cl.zero, cellOk, z4]]
      rw [show cellOk ⟨[], [], 0, os⟩ = false by simp [cellOk]] at hK
      replace hK := Lib.hid hK
      clear hp ht hx hd hr2
      go_enter Tryd.func19, Tryd.ntmps19
      go_upto_region 1 with (fail)
      simp only [List.append_eq, List.cons_append, List.nil_append]
      rw [← hoB.out]
      obtain ⟨w1, hw1⟩ : ∃ w1, w1 = w.alloc oB := ⟨_, rfl⟩
      rw [← hw1]
      obtain ⟨hb, hO0⟩ := hW.out w1 hw1
      replace hO0 := Lib.hid hO0
      clear hw1
      obtain ⟨⟨d0, d1, d2, d3, d4, d5, d6⟩, ⟨d7, d8, d9, d10, d11, d12, d13⟩, hl1⟩ := rec_cells hO0.out
      have hO := hO0.out
      replace hb := Lib.hid hb
      go_wp2_with fail
      refine (hC1.out _).mono ?_
      rintro e w' ⟨rfl, rfl⟩
      go_wp2_with fail
      refine (hC2.out _).mono ?_
      rintro e w' ⟨rfl, rfl⟩
      go_wp2_with fail
      refine (hC3.out _).mono ?_
      rintro e w' ⟨rfl, rfl⟩
      go_wp2_with fail
      refine (hK.out _).mono ?_
      rintro e w2 ⟨rfl, hb2⟩
      replace hO := (Chg.of_below (S := fun _ => False) hb2).heap hO id
      clear d0 d1 d2 d3 d4 d5 d6 d7 d8 d9 d10 d11 d12 d13 hl1
      obtain ⟨⟨d0, d1, d2, d3, d4, d5, d6⟩, ⟨d7, d8, d9, d10, d11, d12, d13⟩, hl1⟩ := rec_cells hO
      replace hb := Lib.hid (hb.out.trans (hb2.mono hb.out.size))
      clear hb2
      go_wp2
      go_ret
      exact ⟨rfl, hb.out⟩
    subst z4
    have hr3 : res = (pagesOk pages && decide (pats.length ≤ 40) && decide (txs.length ≤ 8) && decide (dirty.length ≤ 64) && pats.all patOk && txs.all txOk && dirty.all dirOk) := by rw [hr2]; simp [Cl.zero]
    clear hr2 hK
    have hG : ∀ x, Below w.heap.size w x → Calls Tryd.prog 40 #[vp] x fun e w' => e = .returned (.bool (pagesOk pages)) ∧ x = w' := fun x hb => rpages_any vp pages x (hp.more hb) (by omega)
    cases c6 : pagesOk pages
    case false =>
      simp only [c6, Bool.false_and] at hr3 hG
      subst hr3
      replace hG := Lib.hid hG
      clear hp ht hx hd
      go_enter Tryd.func19, Tryd.ntmps19
      go_upto_region 1 with (fail)
      simp only [List.append_eq, List.cons_append, List.nil_append]
      rw [← hoB.out]
      obtain ⟨w1, hw1⟩ : ∃ w1, w1 = w.alloc oB := ⟨_, rfl⟩
      rw [← hw1]
      obtain ⟨hb, hO0⟩ := hW.out w1 hw1
      replace hO0 := Lib.hid hO0
      clear hw1
      obtain ⟨⟨d0, d1, d2, d3, d4, d5, d6⟩, ⟨d7, d8, d9, d10, d11, d12, d13⟩, hl1⟩ := rec_cells hO0.out
      have hO := hO0.out
      replace hb := Lib.hid hb
      go_wp2_with fail
      refine (hC1.out _).mono ?_
      rintro e w' ⟨rfl, rfl⟩
      go_wp2_with fail
      refine (hC2.out _).mono ?_
      rintro e w' ⟨rfl, rfl⟩
      go_wp2_with fail
      refine (hC3.out _).mono ?_
      rintro e w' ⟨rfl, rfl⟩
      go_wp2_with fail
      refine (hG.out _ hb.out).mono ?_
      rintro e w' ⟨rfl, rfl⟩
      go_wp2
      go_ret
      exact ⟨rfl, hb.out⟩
    simp only [c6, Bool.true_and] at hr3 hG
    replace hG := Lib.hid hG
    obtain ⟨ap, cp, rfl, hp⟩ := hp
    obtain ⟨at_, ct, rfl, ht⟩ := ht
    obtain ⟨ax, cx, rfl, hx⟩ := hx
    have hd0 := hd
    obtain ⟨ad, cd, rfl, hd⟩ := hd
    by_cases c7 : (pats.length : Int) ≤ 40
    case neg =>
      have c7' : (40 : Int) < ((pats.length : Nat) : Int) := by omega
      rw [show res = false by rw [hr3]; simp only [Bool.and_eq_false_iff, decide_eq_false_iff_not]; omega]
      clear hp ht hx hd hd0 hr3 c7
      go_enter Tryd.func19, Tryd.ntmps19
      go_upto_region 1 with (fail)
      simp only [List.append_eq, List.cons_append, List.nil_append]
      rw [← hoB.out]
      obtain ⟨w1, hw1⟩ : ∃ w1, w1 = w.alloc oB := ⟨_, rfl⟩
      rw [← hw1]
      obtain ⟨hb, hO0⟩ := hW.out w1 hw1
      replace hO0 := Lib.hid hO0
      clear hw1
      obtain ⟨⟨d0, d1, d2, d3, d4, d5, d6⟩, ⟨d7, d8, d9, d10, d11, d12, d13⟩, hl1⟩ := rec_cells hO0.out
      have hO := hO0.out
      replace hb := Lib.hid hb
      go_wp2_with fail
      refine (hC1.out _).mono ?_
      rintro e w' ⟨rfl, rfl⟩
      go_wp2_with fail
      refine (hC2.out _).mono ?_
      rintro e w' ⟨rfl, rfl⟩
      go_wp2_with fail
      refine (hC3.out _).mono ?_
      rintro e w' ⟨rfl, rfl⟩
      go_wp2_with fail
      refine (hG.out _ hb.out).mono ?_
      rintro e w' ⟨rfl, rfl⟩
      go_wp2
      go_ret
      exact ⟨rfl, hb.out⟩
    have c7' : ¬ (40 : Int) < ((pats.length : Nat) : Int) := by omega
    by_cases c8 : (txs.length : Int) ≤ 8
    case neg =>
      have c8' : (8 : Int) < ((txs.length : Nat) : Int) := by omega
      rw [show res = false by rw [hr3]; simp only [Bool.and_eq_false_iff, decide_eq_false_iff_not]; omega]
      clear hp ht hx hd hd0 hr3 c8
      go_enter Tryd.func19, Tryd.ntmps19
      go_upto_region 1 with (fail)
      simp only [List.append_eq, List.cons_append, List.nil_append]
      rw [← hoB.out]
      obtain ⟨w1, hw1⟩ : ∃ w1, w1 = w.alloc oB := ⟨_, rfl⟩
      rw [← hw1]
      obtain ⟨hb, hO0⟩ := hW.out w1 hw1
      replace hO0 := Lib.hid hO0
      clear hw1
      obtain ⟨⟨d0, d1, d2, d3, d4, d5, d6⟩, ⟨d7, d8, d9, d10, d11, d12, d13⟩, hl1⟩ := rec_cells hO0.out
      have hO := hO0.out
      replace hb := Lib.hid hb
      go_wp2_with fail
      refine (hC1.out _).mono ?_
      rintro e w' ⟨rfl, rfl⟩
      go_wp2_with fail
      refine (hC2.out _).mono ?_
      rintro e w' ⟨rfl, rfl⟩
      go_wp2_with fail
      refine (hC3.out _).mono ?_
      rintro e w' ⟨rfl, rfl⟩
      go_wp2_with fail
      refine (hG.out _ hb.out).mono ?_
      rintro e w' ⟨rfl, rfl⟩
      go_wp2
      go_ret
      exact ⟨rfl, hb.out⟩
    have c8' : ¬ (8 : Int) < ((txs.length : Nat) : Int) := by omega
    by_cases c9 : (dirty.length : Int) ≤ 64
    case neg =>
      have c9' : (64 : Int) < ((dirty.length : Nat) : Int) := by omega
      rw [show res = false by rw [hr3]; simp only [Bool.and_eq_false_iff, decide_eq_false_iff_not]; omega]
      clear hp ht hx hd hd0 hr3 c9
      go_enter Tryd.func19, Tryd.ntmps19
      go_upto_region 1 with (fail)
      simp only [List.append_eq, List.cons_append, List.nil_append]
      rw [← hoB.out]
      obtain ⟨w1, hw1⟩ : ∃ w1, w1 = w.alloc oB := ⟨_, rfl⟩
      rw [← hw1]
      obtain ⟨hb, hO0⟩ := hW.out w1 hw1
      replace hO0 := Lib.hid hO0
      clear hw1
      obtain ⟨⟨d0, d1, d2, d3, d4, d5, d6⟩, ⟨d7, d8, d9, d10, d11, d12, d13⟩, hl1⟩ := rec_cells hO0.out
      have hO := hO0.out
      replace hb := Lib.hid hb
      go_wp2_with fail
      refine (hC1.out _).mono ?_
      rintro e w' ⟨rfl, rfl⟩
      go_wp2_with fail
      refine (hC2.out _).mono ?_
      rintro e w' ⟨rfl, rfl⟩
      go_wp2_with fail
      refine (hC3.out _).mono ?_
      rintro e w' ⟨rfl, rfl⟩
      go_wp2_with fail
      refine (hG.out _ hb.out).mono ?_
      rintro e w' ⟨rfl, rfl⟩
      go_wp2
      go_ret
      exact ⟨rfl, hb.out⟩
    have c9' : ¬ (64 : Int) < ((dirty.length : Nat) : Int) := by omega
    have hr4 : res = (pats.all patOk && txs.all txOk && dirty.all dirOk) := by
      rw [hr3]
      rw [show decide (pats.length ≤ 40) = true by simp; omega, show decide (txs.length ≤ 8) = true by simp; omega, show decide (dirty.length ≤ 64) = true by simp; omega]
      simp
    replace hr4 := Lib.hid hr4
    replace ht := Lib.hid ht
    replace hx := Lib.hid hx
    replace hd := Lib.hid hd
    clear hp hd0 hr3
    go_enter Tryd.func19, Tryd.ntmps19
    go_upto_region 1 with (fail)
    simp only [List.append_eq, List.cons_append, List.nil_append]
    rw [← hoB.out]
    obtain ⟨w1, hw1⟩ : ∃ w1, w1 = w.alloc oB := ⟨_, rfl⟩
    rw [← hw1]
    obtain ⟨hb, hO0⟩ := hW.out w1 hw1
    replace hO0 := Lib.hid hO0
    clear hw1
    obtain ⟨⟨d0, d1, d2, d3, d4, d5, d6⟩, ⟨d7, d8, d9, d10, d11, d12, d13⟩, hl1⟩ := rec_cells hO0.out
    have hO := hO0.out
    replace hb := Lib.hid hb
    go_wp2_with fail
    refine (hC1.out _).mono ?_
    rintro e w' ⟨rfl, rfl⟩
    go_wp2_with fail
    refine (hC2.out _).mono ?_
    rintro e w' ⟨rfl, rfl⟩
    go_wp2_with fail
    refine (hC3.out _).mono ?_
    rintro e w' ⟨rfl, rfl⟩
    go_wp2_with fail
    refine (hG.out _ hb.out).mono ?_
    rintro e w' ⟨rfl, rfl⟩
    replace hO := Lib.hid hO
    clear hC1 hC2 hC3 hG
    go_wp2
    replace d11 : _ ∧ _ ∧ _ ∧ _ := ⟨d11, d12, d13, hl1⟩
    clear d0 d1 d2 d3 d4 d5 d6 d7 d8 d9 d10 d12 d13 hl1 hO
    replace d11 := Lib.hid d11
    go_loopg [3] pats.length (fun g i wr => ∃ k : Nat, g + k = pats.length ∧ i = .int .i64 k ∧ Aside ((∀ j (hj : j < k) (hl : j < pats.length), patOk pats[j] = true) ∧ Below w.heap.size w wr ∧ wr.cell? ⟨w.heap.size, 11, none⟩ = some (.slice at_ pats.length ct) ∧ wr.cell? ⟨w.heap.size, 12, none⟩ = some (.slice ax txs.length cx) ∧ wr.cell? ⟨w.heap.size, 13, none⟩ = some (.slice ad dirty.length cd) ∧ w.heap.size < wr.heap.size))
    case atStart => exact ⟨0, rfl, rfl, fun j hj => by omega, hb.out, d11.out.1, d11.out.2.1, d11.out.2.2.1, d11.out.2.2.2⟩
    case round =>
      obtain ⟨k, hk, rfl, hI⟩ := hrel
      obtain ⟨i1, i2, i3, i4, i6, i5⟩ := hI.out
      clear hI hb d11
      by_cases hlt : k < pats.length
      · obtain ⟨b, o, rfl, e0, e1, e2⟩ := ht.out k hlt
        replace e0 := cell_more i2 e0
        replace e1 := cell_more i2 e1
        replace e2 := cell_more i2 e2
        have hbl := World.block_lt_of_cell? wr _ e0
        have C := fun x => rpat_any pats[k] x
        obtain ⟨⟨x, y, z⟩, hpk⟩ : ∃ x, x = pats[k] := ⟨_, rfl⟩
        rw [← hpk] at e0 e1 e2 C
        simp only at e0 e1 e2 C
        have hki : (k : Int) < pats.length := by omega
        cases hs : patOk ⟨x, y, z⟩ with
        | true =>
          simp only [hs] at C
          have h46 := Lib.hid (And.intro i4 i6)
          replace C := Lib.hid C
          replace i1 := Lib.hid i1
          replace i2 := Lib.hid i2
          replace hpk := Lib.hid hpk
          replace hs := Lib.hid hs
          clear i4 i6
          go_wp2_with fail
          refine (C.out _).mono ?_
          rintro e w3 ⟨rfl, hb3⟩
          have i3' := cell_more hb3 i3
          replace hb3 := Lib.hid hb3
          clear i3 e0 e1 e2
          go_wp2
          go_roundg (pats.length - (k + 1))
          case rel =>
            refine ⟨k + 1, by omega, by go_num, fun j hj hl => ?_, i2.out.trans (hb3.out.mono i2.out.size), i3', cell_more hb3.out h46.out.1, cell_more hb3.out h46.out.2, Nat.lt_of_lt_of_le i5 hb3.out.size⟩
            by_cases e : j = k
            · subst e; rw [← hpk.out]; exact hs.out
            · exact i1.out j (by omega) hl
          case measure => omega
        | false =>
          simp only [hs] at C
          have hres : res = false := by rw [hr4.out, all_split patOk pats k hlt (fun j hj => i1 j hj (by omega)) (by rw [← hpk]; exact hs)]; rfl
          subst hres
          replace C := Lib.hid C
          replace i2 := Lib.hid i2
          replace hpk := Lib.hid hpk
          clear i1 i4 i6 hs
          go_wp2_with fail
          refine (C.out _).mono ?_
          rintro e w3 ⟨rfl, hb3⟩
          replace hb3 := Lib.hid hb3
          go_wp2
          go_ret
          exact ⟨rfl, i2.out.trans (hb3.out.mono i2.out.size)⟩
      · obtain rfl : k = pats.length := by omega
        have hr5 : res = (txs.all txOk && dirty.all dirOk) := by rw [hr4.out, all_done patOk pats (fun j hj => i1 j hj hj), Bool.true_and]
        replace hr5 := Lib.hid hr5
        replace i2 := Lib.hid i2
        clear i1 hr4 ht
        go_wp2
        replace i4 := Lib.hid (And.intro i4 i6)
        clear i3 i6
        go_loopg [4] txs.length (fun g i wq => ∃ k : Nat, g + k = txs.length ∧ i = .int .i64 k ∧ Aside ((∀ j (hj : j < k) (hl : j < txs.length), txOk txs[j] = true) ∧ wr = wq))
        case atStart => exact ⟨0, rfl, rfl, fun j hj => by omega, rfl⟩
        case round =>
          obtain ⟨k, hk2, rfl, hI⟩ := hrel
          obtain ⟨j1, hz⟩ := hI.out
          obtain rfl := hz.symm
          clear hI hz
          have c12 := i4.out.1
          have c13 := i4.out.2
          by_cases hlt : k < txs.length
          · obtain ⟨b, o, u, rfl, e0, e1, e2, e3, eI⟩ := hx.out k hlt
            replace e0 := cell_more i2.out e0
            replace e1 := cell_more i2.out e1
            replace e2 := cell_more i2.out e2
            replace e3 := cell_more i2.out e3
            have hbl := World.block_lt_of_cell? _ _ e0
            have hpl := hs5.out txs[k] (List.getElem_mem hlt)
            obtain ⟨⟨x, y, z, pg⟩, hpk⟩ : ∃ x, x = txs[k] := ⟨_, rfl⟩
            rw [← hpk] at e0 e1 e2 eI hpl
            simp only at e0 e1 e2 eI hpl
            have hki : (k : Int) < txs.length := by omega
            have C1 := fun w => rtwo_any x w
            have C2 := fun w => rfour_any y w
            have C3 := rpages_any u pg _ (eI.more i2.out) (by omega)
            have hsz2 : txOk ⟨x, y, z, pg⟩ = (short x && long y && pagesOk pg) := rfl
            have hbad : txOk ⟨x, y, z, pg⟩ = false → res = false := fun h => by rw [hr5.out, all_split txOk txs k hlt (fun j hj => j1 j hj (by omega)) (by rw [← hpk]; exact h)]; rfl
            replace hbad := Lib.hid hbad
            replace j1 := Lib.hid j1
            replace hpk := Lib.hid hpk
            replace C3 := Lib.hid C3
            clear eI hpl
            cases t1 : short x with
            | false =>
              have hres : res = false := hbad.out (by rw [hsz2, t1]; rfl)
              subst hres
              simp only [t1] at C1
              replace C1 := Lib.hid C1
              clear hsz2 hbad j1 C2 C3
              go_wp2_with fail
              refine (C1.out _).mono ?_
              rintro e w' ⟨rfl, rfl⟩
              go_wp2
              go_ret
              exact ⟨rfl, i2.out⟩
            | true =>
              simp only [t1] at C1
              replace C1 := Lib.hid C1
              cases t2 : long y with
              | false =>
                have hres : res = false := hbad.out (by rw [hsz2, t1, t2]; rfl)
                subst hres
                simp only [t2] at C2
                replace C2 := Lib.hid C2
                clear hsz2 hbad j1 C3
                go_wp2_with fail
                refine (C1.out _).mono ?_
                rintro e w' ⟨rfl, rfl⟩
                go_wp2_with fail
                refine (C2.out _).mono ?_
                rintro e w' ⟨rfl, rfl⟩
                go_wp2
                go_ret
                exact ⟨rfl, i2.out⟩
              | true =>
                simp only [t2] at C2
                replace C2 := Lib.hid C2
                cases t3 : pagesOk pg with
                | false =>
                  have hres : res = false := hbad.out (by rw [hsz2, t1, t2, t3]; rfl)
                  subst hres
                  rw [t3] at C3
                  clear hsz2 hbad j1
                  go_wp2_with fail
                  refine (C1.out _).mono ?_
                  rintro e w' ⟨rfl, rfl⟩
                  go_wp2_with fail
                  refine (C2.out _).mono ?_
                  rintro e w' ⟨rfl, rfl⟩
                  go_wp2_with fail
                  refine C3.out.mono ?_
                  rintro e w' ⟨rfl, rfl⟩
                  go_wp2
                  go_ret
                  exact ⟨rfl, i2.out⟩
                | true =>
                  have hok : txOk ⟨x, y, z, pg⟩ = true := by rw [hsz2, t1, t2, t3]; rfl
                  replace hok := Lib.hid hok
                  rw [t3] at C3
                  clear hsz2 hbad
                  go_wp2_with fail
                  refine (C1.out _).mono ?_
                  rintro e w' ⟨rfl, rfl⟩
                  go_wp2_with fail
                  refine (C2.out _).mono ?_
                  rintro e w' ⟨rfl, rfl⟩
                  go_wp2_with fail
                  refine C3.out.mono ?_
                  rintro e w' ⟨rfl, rfl⟩
                  go_wp2
                  go_roundg (txs.length - (k + 1))
                  case rel =>
                    refine ⟨k + 1, by omega, by go_num, fun j hj hl => ?_, rfl⟩
                    by_cases e : j = k
                    · subst e; rw [← hpk.out]; exact hok.out
                    · exact j1.out j (by omega) hl
                  case measure => omega
          · obtain rfl : k = txs.length := by omega
            have hr6 : res = dirty.all dirOk := by rw [hr5.out, all_done txOk txs (fun j hj => j1 j hj hj), Bool.true_and]
            replace hr6 := Lib.hid hr6
            clear j1 hr5 hx
            go_wp2
            go_loopg [5] dirty.length (fun g i wq => ∃ k : Nat, g + k = dirty.length ∧ i = .int .i64 k ∧ Aside ((∀ j (hj : j < k) (hl : j < dirty.length), dirOk dirty[j] = true) ∧ wr = wq))
            case atStart => exact ⟨0, rfl, rfl, fun j hj => by omega, rfl⟩
            case round =>
              obtain ⟨k, hk3, rfl, hI⟩ := hrel
              obtain ⟨j1, hz⟩ := hI.out
              obtain rfl := hz.symm
              clear hI hz
              by_cases hlt : k < dirty.length
              · obtain ⟨b, o, rfl, e0, e1⟩ := hd.out k hlt
                replace e0 := cell_more i2.out e0
                replace e1 := cell_more i2.out e1
                have hbl := World.block_lt_of_cell? _ _ e0
                obtain ⟨⟨x, y⟩, hpk⟩ : ∃ x, x = dirty[k] := ⟨_, rfl⟩
                rw [← hpk] at e0 e1
                simp only at e0 e1
                have hki : (k : Int) < dirty.length := by omega
                have C1 := fun w => rtwo_any x w
                have C2 := fun w => rfour_any y w
                have hsz2 : dirOk (x, y) = (short x && long y) := rfl
                have hbad : dirOk (x, y) = false → res = false := fun h => by rw [hr6.out, all_split dirOk dirty k hlt (fun j hj => j1 j hj (by omega)) (by rw [← hpk]; exact h)]
                replace hbad := Lib.hid hbad
                replace j1 := Lib.hid j1
                replace hpk := Lib.hid hpk
                cases t1 : short x with
                | false =>
                  have hres : res = false := hbad.out (by rw [hsz2, t1]; rfl)
                  subst hres
                  simp only [t1] at C1
                  replace C1 := Lib.hid C1
                  clear hsz2 hbad j1 C2
                  go_wp2_with fail
                  refine (C1.out _).mono ?_
                  rintro e w' ⟨rfl, rfl⟩
                  go_wp2
                  go_ret
                  exact ⟨rfl, i2.out⟩
                | true =>
                  simp only [t1] at C1
                  replace C1 := Lib.hid C1
                  cases t2 : long y with
                  | false =>
                    have hres : res = false := hbad.out (by rw [hsz2, t1, t2]; rfl)
                    subst hres
                    simp only [t2] at C2
                    replace C2 := Lib.hid C2
                    clear hsz2 hbad j1
                    go_wp2_with fail
                    refine (C1.out _).mono ?_
                    rintro e w' ⟨rfl, rfl⟩
                    go_wp2_with fail
                    refine (C2.out _).mono ?_
                    rintro e w' ⟨rfl, rfl⟩
                    go_wp2
                    go_ret
                    exact ⟨rfl, i2.out⟩
                  | true =>
                    have hok : dirOk (x, y) = true := by rw [hsz2, t1, t2]; rfl
                    replace hok := Lib.hid hok
                    simp only [t2] at C2
                    replace C2 := Lib.hid C2
                    clear hsz2 hbad
                    go_wp2_with fail
                    refine (C1.out _).mono ?_
                    rintro e w' ⟨rfl, rfl⟩
                    go_wp2_with fail
                    refine (C2.out _).mono ?_
                    rintro e w' ⟨rfl, rfl⟩
                    go_wp2
                    go_roundg (dirty.length - (k + 1))
                    case rel =>
                      refine ⟨k + 1, by omega, by go_num, fun j hj hl => ?_, rfl⟩
                      by_cases e : j = k
                      · subst e; rw [← hpk.out]; exact hok.out
                      · exact j1.out j (by omega) hl
                    case measure => omega
              · obtain rfl : k = dirty.length := by omega
                have hr7 : res = true := by rw [hr6.out, all_done dirOk dirty (fun j hj => j1 j hj hj)]
                subst hr7
                clear j1
                go_wp2
                go_ret
                exact ⟨rfl, i2.out⟩
  have z1' : ok.isEmpty = false := by simpa using z1
  have hz : decide ((⟨ok, ov, ob, os⟩ : Cl) = Cl.zero) = false := by simp [Cl.zero, z1]
  rw [hz, Bool.false_or] at hr2
  cases c5 : cellOk ⟨ok, ov, ob, os⟩
  case false =>
    simp only [c5, Bool.false_and] at hr2 hK
    subst hr2
    replace hK := Lib.hid hK
    clear hp ht hx hd
    go_enter Tryd.func19, Tryd.ntmps19
    go_upto_region 1 with (fail)
    simp only [List.append_eq, List.cons_append, List.nil_append]
    rw [← hoB.out]
    obtain ⟨w1, hw1⟩ : ∃ w1, w1 = w.alloc oB := ⟨_, rfl⟩
    rw [← hw1]
    obtain ⟨hb, hO0⟩ := hW.out w1 hw1
    replace hO0 := Lib.hid hO0
    clear hw1
    obtain ⟨⟨d0, d1, d2, d3, d4, d5, d6⟩, ⟨d7, d8, d9, d10, d11, d12, d13⟩, hl1⟩ := rec_cells hO0.out
    have hO := hO0.out
    replace hb := Lib.hid hb
    go_wp2_with fail
    refine (hC1.out _).mono ?_
    rintro e w' ⟨rfl, rfl⟩
    go_wp2_with fail
    refine (hC2.out _).mono ?_
    rintro e w' ⟨rfl, rfl⟩
    go_wp2_with fail
    refine (hC3.out _).mono ?_
    rintro e w' ⟨rfl, rfl⟩
    go_wp2_with fail
    refine (hK.out _).mono ?_
    rintro e w2 ⟨rfl, hb2⟩
    replace hO := (Chg.of_below (S := fun _ => False) hb2).heap hO id
    clear d0 d1 d2 d3 d4 d5 d6 d7 d8 d9 d10 d11 d12 d13 hl1
    obtain ⟨⟨d0, d1, d2, d3, d4, d5, d6⟩, ⟨d7, d8, d9, d10, d11, d12, d13⟩, hl1⟩ := rec_cells hO
    replace hb := Lib.hid (hb.out.trans (hb2.mono hb.out.size))
    clear hb2
    go_wp2
    go_ret
    exact ⟨rfl, hb.out⟩
  have hr3 : res = (pagesOk pages && decide (pats.length ≤ 40) && decide (txs.length ≤ 8) && decide (dirty.length ≤ 64) && pats.all patOk && txs.all txOk && dirty.all dirOk) := by rw [hr2, c5]; simp
  simp only [c5] at hK
  replace hK := Lib.hid hK
  clear hr2
  have hG : ∀ x, Below w.heap.size w x → Calls Tryd.prog 40 #[vp] x fun e w' => e = .returned (.bool (pagesOk pages)) ∧ x = w' := fun x hb => rpages_any vp pages x (hp.more hb) (by omega)
  cases c6 : pagesOk pages
  case false =>
    simp only [c6, Bool.false_and] at hr3 hG
    subst hr3
    replace hG := Lib.hid hG
    clear hp ht hx hd
    go_enter Tryd.func19, Tryd.ntmps19
    go_upto_region 1 with (fail)
    simp only [List.append_eq, List.cons_append, List.nil_append]
    rw [← hoB.out]
    obtain ⟨w1, hw1⟩ : ∃ w1, w1 = w.alloc oB := ⟨_, rfl⟩
    rw [← hw1]
    obtain ⟨hb, hO0⟩ := hW.out w1 hw1
    replace hO0 := Lib.hid hO0
    clear hw1
    obtain ⟨⟨d0, d1, d2, d3, d4, d5, d6⟩, ⟨d7, d8, d9, d10, d11, d12, d13⟩, hl1⟩ := rec_cells hO0.out
    have hO := hO0.out
    replace hb := Lib.hid hb
    go_wp2_with fail
    refine (hC1.out _).mono ?_
    rintro e w' ⟨rfl, rfl⟩
    go_wp2_with fail
    refine (hC2.out _).mono ?_
    rintro e w' ⟨rfl, rfl⟩
    go_wp2_with fail
    refine (hC3.out _).mono ?_
    rintro e w' ⟨rfl, rfl⟩
    go_wp2_with fail
    refine (hK.out _).mono ?_
    rintro e w2 ⟨rfl, hb2⟩
    replace hO := (Chg.of_below (S := fun _ => False) hb2).heap hO id
    clear d0 d1 d2 d3 d4 d5 d6 d7 d8 d9 d10 d11 d12 d13 hl1
    obtain ⟨⟨d0, d1, d2, d3, d4, d5, d6⟩, ⟨d7, d8, d9, d10, d11, d12, d13⟩, hl1⟩ := rec_cells hO
    replace hb := Lib.hid (hb.out.trans (hb2.mono hb.out.size))
    clear hb2
    go_wp2_with fail
    refine (hG.out _ hb.out).mono ?_
    rintro e w' ⟨rfl, rfl⟩
    go_wp2
    go_ret
    exact ⟨rfl, hb.out⟩
  simp only [c6, Bool.true_and] at hr3 hG
  replace hG := Lib.hid hG
  obtain ⟨ap, cp, rfl, hp⟩ := hp
  obtain ⟨at_, ct, rfl, ht⟩ := ht
  obtain ⟨ax, cx, rfl, hx⟩ := hx
  have hd0 := hd
  obtain ⟨ad, cd, rfl, hd⟩ := hd
  by_cases c7 : (pats.length : Int) ≤ 40
  case neg =>
    have c7' : (40 : Int) < ((pats.length : Nat) : Int) := by omega
    rw [show res = false by rw [hr3]; simp only [Bool.and_eq_false_iff, decide_eq_false_iff_not]; omega]
    clear hp ht hx hd hd0 hr3 c7
    go_enter Tryd.func19, Tryd.ntmps19
    go_upto_region 1 with (fail)
    simp only [List.append_eq, List.cons_append, List.nil_append]
    rw [← hoB.out]
    obtain ⟨w1, hw1⟩ : ∃ w1, w1 = w.alloc oB := ⟨_, rfl⟩
    rw [← hw1]
    obtain ⟨hb, hO0⟩ := hW.out w1 hw1
    replace hO0 := Lib.hid hO0
    clear hw1
    obtain ⟨⟨d0, d1, d2, d3, d4, d5, d6⟩, ⟨d7, d8, d9, d10, d11, d12, d13⟩, hl1⟩ := rec_cells hO0.out
    have hO := hO0.out
    replace hb := Lib.hid hb
    go_wp2_with fail
    refine (hC1.out _).mono ?_
    rintro e w' ⟨rfl, rfl⟩
    go_wp2_with fail
    refine (hC2.out _).mono ?_
    rintro e w' ⟨rfl, rfl⟩
    go_wp2_with fail
    refine (hC3.out _).mono ?_
    rintro e w' ⟨rfl, rfl⟩
    go_wp2_with fail
    refine (hK.out _).mono ?_
    rintro e w2 ⟨rfl, hb2⟩
    replace hO := (Chg.of_below (S := fun _ => False) hb2).heap hO id
    clear d0 d1 d2 d3 d4 d5 d6 d7 d8 d9 d10 d11 d12 d13 hl1
    obtain ⟨⟨d0, d1, d2, d3, d4, d5, d6⟩, ⟨d7, d8, d9, d10, d11, d12, d13⟩, hl1⟩ := rec_cells hO
    replace hb := Lib.hid (hb.out.trans (hb2.mono hb.out.size))
    clear hb2
    go_wp2_with fail
    refine (hG.out _ hb.out).mono ?_
    rintro e w' ⟨rfl, rfl⟩
    go_wp2
    go_ret
    exact ⟨rfl, hb.out⟩
  have c7' : ¬ (40 : Int) < ((pats.length : Nat) : Int) := by omega
  by_cases c8 : (txs.length : Int) ≤ 8
  case neg =>
    have c8' : (8 : Int) < ((txs.length : Nat) : Int) := by omega
    rw [show res = false by rw [hr3]; simp only [Bool.and_eq_false_iff, decide_eq_false_iff_not]; omega]
    clear hp ht hx hd hd0 hr3 c8
    go_enter Tryd.func19, Tryd.ntmps19
    go_upto_region 1 with (fail)
    simp only [List.append_eq, List.cons_append, List.nil_append]
    rw [← hoB.out]
    obtain ⟨w1, hw1⟩ : ∃ w1, w1 = w.alloc oB := ⟨_, rfl⟩
    rw [← hw1]
    obtain ⟨hb, hO0⟩ := hW.out w1 hw1
    replace hO0 := Lib.hid hO0
    clear hw1
    obtain ⟨⟨d0, d1, d2, d3, d4, d5, d6⟩, ⟨d7, d8, d9, d10, d11, d12, d13⟩, hl1⟩ := rec_cells hO0.out
    have hO := hO0.out
    replace hb := Lib.hid hb
    go_wp2_with fail
    refine (hC1.out _).mono ?_
    rintro e w' ⟨rfl, rfl⟩
    go_wp2_with fail
    refine (hC2.out _).mono ?_
    rintro e w' ⟨rfl, rfl⟩
    go_wp2_with fail
    refine (hC3.out _).mono ?_
    rintro e w' ⟨rfl, rfl⟩
    go_wp2_with fail
    refine (hK.out _).mono ?_
    rintro e w2 ⟨rfl, hb2⟩
    replace hO := (Chg.of_below (S := fun _ => False) hb2).heap hO id
    clear d0 d1 d2 d3 d4 d5 d6 d7 d8 d9 d10 d11 d12 d13 hl1
    obtain ⟨⟨d0, d1, d2, d3, d4, d5, d6⟩, ⟨d7, d8, d9, d10, d11, d12, d13⟩, hl1⟩ := rec_cells hO
    replace hb := Lib.hid (hb.out.trans (hb2.mono hb.out.size))
    clear hb2
    go_wp2_with fail
    refine (hG.out _ hb.out).mono ?_
    rintro e w' ⟨rfl, rfl⟩
    go_wp2
    go_ret
    exact ⟨rfl, hb.out⟩
  have c8' : ¬ (8 : Int) < ((txs.length : Nat) : Int) := by omega
  by_cases c9 : (dirty.length : Int) ≤ 64
  case neg =>
    have c9' : (64 : Int) < ((dirty.length : Nat) : Int) := by omega
    rw [show res = false by rw [hr3]; simp only [Bool.and_eq_false_iff, decide_eq_false_iff_not]; omega]
    clear hp ht hx hd hd0 hr3 c9
    go_enter Tryd.func19, Tryd.ntmps19
    go_upto_region 1 with (fail)
    simp only [List.append_eq, List.cons_append, List.nil_append]
    rw [← hoB.out]
    obtain ⟨w1, hw1⟩ : ∃ w1, w1 = w.alloc oB := ⟨_, rfl⟩
    rw [← hw1]
    obtain ⟨hb, hO0⟩ := hW.out w1 hw1
    replace hO0 := Lib.hid hO0
    clear hw1
    obtain ⟨⟨d0, d1, d2, d3, d4, d5, d6⟩, ⟨d7, d8, d9, d10, d11, d12, d13⟩, hl1⟩ := rec_cells hO0.out
    have hO := hO0.out
    replace hb := Lib.hid hb
    go_wp2_with fail
    refine (hC1.out _).mono ?_
    rintro e w' ⟨rfl, rfl⟩
    go_wp2_with fail
    refine (hC2.out _).mono ?_
    rintro e w' ⟨rfl, rfl⟩
    go_wp2_with fail
    refine (hC3.out _).mono ?_
    rintro e w' ⟨rfl, rfl⟩
    go_wp2_with fail
    refine (hK.out _).mono ?_
    rintro e w2 ⟨rfl, hb2⟩
    replace hO := (Chg.of_below (S := fun _ => False) hb2).heap hO id
    clear d0 d1 d2 d3 d4 d5 d6 d7 d8 d9 d10 d11 d12 d13 hl1
    obtain ⟨⟨d0, d1, d2, d3, d4, d5, d6⟩, ⟨d7, d8, d9, d10, d11, d12, d13⟩, hl1⟩ := rec_cells hO
    replace hb := Lib.hid (hb.out.trans (hb2.mono hb.out.size))
    clear hb2
    go_wp2_with fail
    refine (hG.out _ hb.out).mono ?_
    rintro e w' ⟨rfl, rfl⟩
    go_wp2
    go_ret
    exact ⟨rfl, hb.out⟩
  have c9' : ¬ (64 : Int) < ((dirty.length : Nat) : Int) := by omega
  have hr4 : res = (pats.all patOk && txs.all txOk && dirty.all dirOk) := by
    rw [hr3]
    rw [show decide (pats.length ≤ 40) = true by simp; omega, show decide (txs.length ≤ 8) = true by simp; omega, show decide (dirty.length ≤ 64) = true by simp; omega]
    simp
  replace hr4 := Lib.hid hr4
  replace ht := Lib.hid ht
  replace hx := Lib.hid hx
  replace hd := Lib.hid hd
  clear hp hd0 hr3
  go_enter Tryd.func19, Tryd.ntmps19
  go_upto_region 1 with (fail)
  simp only [List.append_eq, List.cons_append, List.nil_append]
  rw [← hoB.out]
  obtain ⟨w1, hw1⟩ : ∃ w1, w1 = w.alloc oB := ⟨_, rfl⟩
  rw [← hw1]
  obtain ⟨hb, hO0⟩ := hW.out w1 hw1
  replace hO0 := Lib.hid hO0
  clear hw1
  obtain ⟨⟨d0, d1, d2, d3, d4, d5, d6⟩, ⟨d7, d8, d9, d10, d11, d12, d13⟩, hl1⟩ := rec_cells hO0.out
  have hO := hO0.out
  replace hb := Lib.hid hb
  go_wp2_with fail
  refine (hC1.out _).mono ?_
  rintro e w' ⟨rfl, rfl⟩
  go_wp2_with fail
  refine (hC2.out _).mono ?_
  rintro e w' ⟨rfl, rfl⟩
  go_wp2_with fail
  refine (hC3.out _).mono ?_
  rintro e w' ⟨rfl, rfl⟩
  go_wp2_with fail
  refine (hK.out _).mono ?_
  rintro e w2 ⟨rfl, hb2⟩
  replace hO := (Chg.of_below (S := fun _ => False) hb2).heap hO id
  clear d0 d1 d2 d3 d4 d5 d6 d7 d8 d9 d10 d11 d12 d13 hl1
  obtain ⟨⟨d0, d1, d2, d3, d4, d5, d6⟩, ⟨d7, d8, d9, d10, d11, d12, d13⟩, hl1⟩ := rec_cells hO
  replace hb := Lib.hid (hb.out.trans (hb2.mono hb.out.size))
  clear hb2
  go_wp2_with fail
  refine (hG.out _ hb.out).mono ?_
  rintro e w' ⟨rfl, rfl⟩
  replace hO := Lib.hid hO
  clear hC1 hC2 hC3 hG
  clear hK
  go_wp2
  replace d11 : _ ∧ _ ∧ _ ∧ _ := ⟨d11, d12, d13, hl1⟩
  clear d0 d1 d2 d3 d4 d5 d6 d7 d8 d9 d10 d12 d13 hl1 hO
  replace d11 := Lib.hid d11
  go_loopg [3] pats.length (fun g i wr => ∃ k : Nat, g + k = pats.length ∧ i = .int .i64 k ∧ Aside ((∀ j (hj : j < k) (hl : j < pats.length), patOk pats[j] = true) ∧ Below w.heap.size w wr ∧ wr.cell? ⟨w.heap.size, 11, none⟩ = some (.slice at_ pats.length ct) ∧ wr.cell? ⟨w.heap.size, 12, none⟩ = some (.slice ax txs.length cx) ∧ wr.cell? ⟨w.heap.size, 13, none⟩ = some (.slice ad dirty.length cd) ∧ w.heap.size < wr.heap.size))
  case atStart => exact ⟨0, rfl, rfl, fun j hj => by omega, hb.out, d11.out.1, d11.out.2.1, d11.out.2.2.1, d11.out.2.2.2⟩
  case round =>
    obtain ⟨k, hk, rfl, hI⟩ := hrel
    obtain ⟨i1, i2, i3, i4, i6, i5⟩ := hI.out
    clear hI hb d11
    by_cases hlt : k < pats.length
    · obtain ⟨b, o, rfl, e0, e1, e2⟩ := ht.out k hlt
      replace e0 := cell_more i2 e0
      replace e1 := cell_more i2 e1
      replace e2 := cell_more i2 e2
      have hbl := World.block_lt_of_cell? wr _ e0
      have C := fun x => rpat_any pats[k] x
      obtain ⟨⟨x, y, z⟩, hpk⟩ : ∃ x, x = pats[k] := ⟨_, rfl⟩
      rw [← hpk] at e0 e1 e2 C
      simp only at e0 e1 e2 C
      have hki : (k : Int) < pats.length := by omega
      cases hs : patOk ⟨x, y, z⟩ with
      | true =>
        simp only [hs] at C
        have h46 := Lib.hid (And.intro i4 i6)
        replace C := Lib.hid C
        replace i1 := Lib.hid i1
        replace i2 := Lib.hid i2
        replace hpk := Lib.hid hpk
        replace hs := Lib.hid hs
        clear i4 i6
        go_wp2_with fail
        refine (C.out _).mono ?_
        rintro e w3 ⟨rfl, hb3⟩
        have i3' := cell_more hb3 i3
        replace hb3 := Lib.hid hb3
        clear i3 e0 e1 e2
        go_wp2
        go_roundg (pats.length - (k + 1))
        case rel =>
          refine ⟨k + 1, by omega, by go_num, fun j hj hl => ?_, i2.out.trans (hb3.out.mono i2.out.size), i3', cell_more hb3.out h46.out.1, cell_more hb3.out h46.out.2, Nat.lt_of_lt_of_le i5 hb3.out.size⟩
          by_cases e : j = k
          · subst e; rw [← hpk.out]; exact hs.out
          · exact i1.out j (by omega) hl
        case measure => omega
      | false =>
        simp only [hs] at C
        have hres : res = false := by rw [hr4.out, all_split patOk pats k hlt (fun j hj => i1 j hj (by omega)) (by rw [← hpk]; exact hs)]; rfl
        subst hres
        replace C := Lib.hid C
        replace i2 := Lib.hid i2
        replace hpk := Lib.hid hpk
        clear i1 i4 i6 hs
        go_wp2_with fail
        refine (C.out _).mono ?_
        rintro e w3 ⟨rfl, hb3⟩
        replace hb3 := Lib.hid hb3
        go_wp2
        go_ret
        exact ⟨rfl, i2.out.trans (hb3.out.mono i2.out.size)⟩
    · obtain rfl : k = pats.length := by omega
      have hr5 : res = (txs.all txOk && dirty.all dirOk) := by rw [hr4.out, all_done patOk pats (fun j hj => i1 j hj hj), Bool.true_and]
      replace hr5 := Lib.hid hr5
      replace i2 := Lib.hid i2
      clear i1 hr4 ht
      go_wp2
      replace i4 := Lib.hid (And.intro i4 i6)
      clear i3 i6
      go_loopg [4] txs.length (fun g i wq => ∃ k : Nat, g + k = txs.length ∧ i = .int .i64 k ∧ Aside ((∀ j (hj : j < k) (hl : j < txs.length), txOk txs[j] = true) ∧ wr = wq))
      case atStart => exact ⟨0, rfl, rfl, fun j hj => by omega, rfl⟩
      case round =>
        obtain ⟨k, hk2, rfl, hI⟩ := hrel
        obtain ⟨j1, hz⟩ := hI.out
        obtain rfl := hz.symm
        clear hI hz
        have c12 := i4.out.1
        have c13 := i4.out.2
        by_cases hlt : k < txs.length
        · obtain ⟨b, o, u, rfl, e0, e1, e2, e3, eI⟩ := hx.out k hlt
          replace e0 := cell_more i2.out e0
          replace e1 := cell_more i2.out e1
          replace e2 := cell_more i2.out e2
          replace e3 := cell_more i2.out e3
          have hbl := World.block_lt_of_cell? _ _ e0
          have hpl := hs5.out txs[k] (List.getElem_mem hlt)
          obtain ⟨⟨x, y, z, pg⟩, hpk⟩ : ∃ x, x = txs[k] := ⟨_, rfl⟩
          rw [← hpk] at e0 e1 e2 eI hpl
          simp only at e0 e1 e2 eI hpl
          have hki : (k : Int) < txs.length := by omega
          have C1 := fun w => rtwo_any x w
          have C2 := fun w => rfour_any y w
          have C3 := rpages_any u pg _ (eI.more i2.out) (by omega)
          have hsz2 : txOk ⟨x, y, z, pg⟩ = (short x && long y && pagesOk pg) := rfl
          have hbad : txOk ⟨x, y, z, pg⟩ = false → res = false := fun h => by rw [hr5.out, all_split txOk txs k hlt (fun j hj => j1 j hj (by omega)) (by rw [← hpk]; exact h)]; rfl
          replace hbad := Lib.hid hbad
          replace j1 := Lib.hid j1
          replace hpk := Lib.hid hpk
          replace C3 := Lib.hid C3
          clear eI hpl
          cases t1 : short x with
          | false =>
            have hres : res = false := hbad.out (by rw [hsz2, t1]; rfl)
            subst hres
            simp only [t1] at C1
            replace C1 := Lib.hid C1
            clear hsz2 hbad j1 C2 C3
            go_wp2_with fail
            refine (C1.out _).mono ?_
            rintro e w' ⟨rfl, rfl⟩
            go_wp2
            go_ret
            exact ⟨rfl, i2.out⟩
          | true =>
            simp only [t1] at C1
            replace C1 := Lib.hid C1
            cases t2 : long y with
            | false =>
              have hres : res = false := hbad.out (by rw [hsz2, t1, t2]; rfl)
              subst hres
              simp only [t2] at C2
              replace C2 := Lib.hid C2
              clear hsz2 hbad j1 C3
              go_wp2_with fail
              refine (C1.out _).mono ?_
              rintro e w' ⟨rfl, rfl⟩
              go_wp2_with fail
              refine (C2.out _).mono ?_
              rintro e w' ⟨rfl, rfl⟩
              go_wp2
              go_ret
              exact ⟨rfl, i2.out⟩
            | true =>
              simp only [t2] at C2
              replace C2 := Lib.hid C2
              cases t3 : pagesOk pg with
              | false =>
                have hres : res = false := hbad.out (by rw [hsz2, t1, t2, t3]; rfl)
                subst hres
                rw [t3] at C3
                clear hsz2 hbad j1
                go_wp2_with fail
                refine (C1.out _).mono ?_
                rintro e w' ⟨rfl, rfl⟩
                go_wp2_with fail
                refine (C2.out _).mono ?_
                rintro e w' ⟨rfl, rfl⟩
                go_wp2_with fail
                refine C3.out.mono ?_
                rintro e w' ⟨rfl, rfl⟩
                go_wp2
                go_ret
                exact ⟨rfl, i2.out⟩
              | true =>
                have hok : txOk ⟨x, y, z, pg⟩ = true := by rw [hsz2, t1, t2, t3]; rfl
                replace hok := Lib.hid hok
                rw [t3] at C3
                clear hsz2 hbad
                go_wp2_with fail
                refine (C1.out _).mono ?_
                rintro e w' ⟨rfl, rfl⟩
                go_wp2_with fail
                refine (C2.out _).mono ?_
                rintro e w' ⟨rfl, rfl⟩
                go_wp2_with fail
                refine C3.out.mono ?_
                rintro e w' ⟨rfl, rfl⟩
                go_wp2
                go_roundg (txs.length - (k + 1))
                case rel =>
                  refine ⟨k + 1, by omega, by go_num, fun j hj hl => ?_, rfl⟩
                  by_cases e : j = k
                  · subst e; rw [← hpk.out]; exact hok.out
                  · exact j1.out j (by omega) hl
                case measure => omega
        · obtain rfl : k = txs.length := by omega
          have hr6 : res = dirty.all dirOk := by rw [hr5.out, all_done txOk txs (fun j hj => j1 j hj hj), Bool.true_and]
          replace hr6 := Lib.hid hr6
          clear j1 hr5 hx
          go_wp2
          go_loopg [5] dirty.length (fun g i wq => ∃ k : Nat, g + k = dirty.length ∧ i = .int .i64 k ∧ Aside ((∀ j (hj : j < k) (hl : j < dirty.length), dirOk dirty[j] = true) ∧ wr = wq))
          case atStart => exact ⟨0, rfl, rfl, fun j hj => by omega, rfl⟩
          case round =>
            obtain ⟨k, hk3, rfl, hI⟩ := hrel
            obtain ⟨j1, hz⟩ := hI.out
            obtain rfl := hz.symm
            clear hI hz
            by_cases hlt : k < dirty.length
            · obtain ⟨b, o, rfl, e0, e1⟩ := hd.out k hlt
              replace e0 := cell_more i2.out e0
              replace e1 := cell_more i2.out e1
              have hbl := World.block_lt_of_cell? _ _ e0
              obtain ⟨⟨x, y⟩, hpk⟩ : ∃ x, x = dirty[k] := ⟨_, rfl⟩
              rw [← hpk] at e0 e1
              simp only at e0 e1
              have hki : (k : Int) < dirty.length := by omega
              have C1 := fun w => rtwo_any x w
              have C2 := fun w => rfour_any y w
              have hsz2 : dirOk (x, y) = (short x && long y) := rfl
              have hbad : dirOk (x, y) = false → res = false := fun h => by rw [hr6.out, all_split dirOk dirty k hlt (fun j hj => j1 j hj (by omega)) (by rw [← hpk]; exact h)]
              replace hbad := Lib.hid hbad
              replace j1 := Lib.hid j1
              replace hpk := Lib.hid hpk
              cases t1 : short x with
              | false =>
                have hres : res = false := hbad.out (by rw [hsz2, t1]; rfl)
                subst hres
                simp only [t1] at C1
                replace C1 := Lib.hid C1
                clear hsz2 hbad j1 C2
                go_wp2_with fail
                refine (C1.out _).mono ?_
                rintro e w' ⟨rfl, rfl⟩
                go_wp2
                go_ret
                exact ⟨rfl, i2.out⟩
              | true =>
                simp only [t1] at C1
                replace C1 := Lib.hid C1
                cases t2 : long y with
                | false =>
                  have hres : res = false := hbad.out (by rw [hsz2, t1, t2]; rfl)
                  subst hres
                  simp only [t2] at C2
                  replace C2 := Lib.hid C2
                  clear hsz2 hbad j1
                  go_wp2_with fail
                  refine (C1.out _).mono ?_
                  rintro e w' ⟨rfl, rfl⟩
                  go_wp2_with fail
                  refine (C2.out _).mono ?_
                  rintro e w' ⟨rfl, rfl⟩
                  go_wp2
                  go_ret
                  exact ⟨rfl, i2.out⟩
                | true =>
                  have hok : dirOk (x, y) = true := by rw [hsz2, t1, t2]; rfl
                  replace hok := Lib.hid hok
                  simp only [t2] at C2
                  replace C2 := Lib.hid C2
                  clear hsz2 hbad
                  go_wp2_with fail
                  refine (C1.out _).mono ?_
                  rintro e w' ⟨rfl, rfl⟩
                  go_wp2_with fail
                  refine (C2.out _).mono ?_
                  rintro e w' ⟨rfl, rfl⟩
                  go_wp2
                  go_roundg (dirty.length - (k + 1))
                  case rel =>
                    refine ⟨k + 1, by omega, by go_num, fun j hj hl => ?_, rfl⟩
                    by_cases e : j = k
                    · subst e; rw [← hpk.out]; exact hok.out
                    · exact j1.out j (by omega) hl
                  case measure => omega
            · obtain rfl : k = dirty.length := by omega
              have hr7 : res = true := by rw [hr6.out, all_done dirOk dirty (fun j hj => j1 j hj hj)]
              subst hr7
              clear j1
              go_wp2
              go_ret
              exact ⟨rfl, i2.out⟩
end Go.Proofs.YtofejnhnnmnfpaaDoor.Rc
