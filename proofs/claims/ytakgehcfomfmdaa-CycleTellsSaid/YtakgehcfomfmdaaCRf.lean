/- The document's search. No condition. -/
import Derived.Test.YtakgehcfomfmdaaCQ
import Derived.Test.YtakgehcfomfmdaaCReach
import Derived.Deep.RegionHeld3
import Derived.BigQuiet
import Derived.Deep.QuietTactic
namespace Go.Proofs.Ytakgehcfomfmdaa
open Go.RowKit

theorem Sr.popFront {E : List (Int × Int)} {s n : Int} {acc todo : List Int} (h : Sr E s acc (n :: todo)) : Sm E s n [] acc todo :=
  ⟨h.nd, h.reach, fun x hx => h.tod x (List.mem_cons_of_mem _ hx), fun y hy hn hne z hz => h.done y hy (by simp [hn, hne]) z hz, fun z hz => (by cases hz), h.tod n (by simp)⟩
theorem nxt_skip {F : List (Int × Int)} {x y z : Int} {i : Nat} (hi : F[i]? = some (y, z)) (h : y ≠ x) : nxt (F.take (i + 1)) x = nxt (F.take i) x := by
  obtain ⟨hl, e⟩ := List.getElem?_eq_some_iff.1 hi
  rw [List.take_succ_eq_append_getElem hl, nxt, List.filter_append, e]
  simp [nxt, h]
theorem nxt_step {F : List (Int × Int)} {x z : Int} {i : Nat} (hi : F[i]? = some (x, z)) : nxt (F.take (i + 1)) x = nxt (F.take i) x ++ [z] := by
  obtain ⟨hl, e⟩ := List.getElem?_eq_some_iff.1 hi
  rw [List.take_succ_eq_append_getElem hl, nxt, List.filter_append, e]
  simp [nxt]
/-- Both rows behind an append onto the first, and behind one onto the second. -/
def RQ (w0 wr : World) (vl vt : Value) (acc todo : List Int) : Prop :=
  wr.ownsRow w0.heap.size 3 1 vl acc.length (icells acc) ∧ QAt w0.heap.size wr vt todo ∧ (∀ k, vl.ownBlock = some k → vt.ownBlock ≠ some k) ∧ Below w0.heap.size w0 wr
theorem RQ.drew {w0 wr : World} {vl vt : Value} {acc todo : List Int} (h : RQ w0 wr vl vt acc todo) : RQ w0 wr.drew vl vt acc todo := ⟨h.1, h.2.1, h.2.2.1, h.2.2.2.drew⟩
theorem RQ.one {w0 wr w1 : World} {vl vt vl' : Value} {acc todo : List Int} {x : Int} {o : Obj} (h : RQ w0 wr vl vt acc todo) (ho : w1.ownsRow w0.heap.size 3 1 vl' (acc.length + 1) (icells acc ++ [.int .i64 x])) (hg : (wr.alloc o).grownBy w1 vl.ownBlock) (hl : vl'.ownBlock = vl.ownBlock ∨ ∀ k, vl'.ownBlock = some k → (wr.alloc o).heap.size ≤ k) : RQ w0 w1 vl' vt (acc ++ [x]) todo := by
  obtain ⟨h1, h2, h3, h4⟩ := h
  have hc : Chg (fun k => vl.ownBlock = some k) wr w1 := ((Chg.refl _ wr).alloc o).grown hg (fun _ _ e => e)
  refine ⟨by rw [icells_append, List.length_append]; exact ho, h2.kept hc (fun k hk e => h3 k e hk), fun k hk e => ?_, h4.trans (hc.below (fun k hk e => (h1.lt k e).1) h4.size)⟩
  rcases hl with hl | hl
  · rw [hl] at hk; exact h3 k hk e
  · have h5 := hl k hk
    rw [World.size_alloc] at h5
    have := (h2.lt e).2
    omega
theorem RQ.two {w0 wr w1 : World} {vl vt vt' : Value} {acc todo todo' : List Int} {o : Obj} (h : RQ w0 wr vl vt acc todo) (hq : QAt w0.heap.size w1 vt' todo') (hg : (wr.alloc o).grownBy w1 vt.ownBlock) (hl : vt'.ownBlock = vt.ownBlock ∨ ∀ k, vt'.ownBlock = some k → (wr.alloc o).heap.size ≤ k) : RQ w0 w1 vl vt' acc todo' := by
  obtain ⟨h1, h2, h3, h4⟩ := h
  have hc : Chg (fun k => vt.ownBlock = some k) wr w1 := ((Chg.refl _ wr).alloc o).grown hg (fun _ _ e => e)
  refine ⟨hc.row h1 (fun k hk e => h3 k hk e), hq, fun k hk e => ?_, h4.trans (hc.below (fun k hk e => (h2.lt e).1) h4.size)⟩
  rcases hl with hl | hl
  · rw [hl] at e; exact h3 k hk e
  · have h5 := hl k e
    rw [World.size_alloc] at h5
    have := (h1.lt k hk).2
    omega

theorem form_len {base : Nat} {w : World} {v : Value} {q : List Int} (h : QAt base w v q) : ∃ g o m cap, v = .slice (some ⟨g, o, none⟩) m cap ∧ m = q.length ∧ m ≤ cap ∧ ∀ j (h : j < q.length), w.cell? ⟨g, o + j, none⟩ = some (.int .i64 q[j]) := by
  obtain ⟨g, o, cap, e, h1, h2⟩ := h.form
  exact ⟨g, o, _, cap, e, rfl, h1, h2⟩
set_option maxRecDepth 100000 in
set_option maxHeartbeats 3200000 in
theorem rreach_ahead (a : Option Addr) (c : Nat) (E F : List (Int × Int)) (hF : F = E) (s : Int) (w : World) (hE : PAt w a E) (hl : E.length ≤ 100000) (hs : (Lit.int .i64 s).wf = true) :
    Calls Try.prog 26 #[.int .i64 s, .slice a E.length c, .bool false] w fun e w' => ∃ (v : Value) (acc : List Int), e = .returned v ∧ w'.ownsRow w.heap.size 3 1 v acc.length (icells acc) ∧ acc.Nodup ∧ (∀ x, x ∈ acc ↔ Rt F s x) ∧ IWf acc ∧ acc.length ≤ E.length ∧ Below w.heap.size w w' := by
  obtain ⟨ii, hi0, hz0, hz1, hz2⟩ := info_parts infoInt
  have hFl : F.length = E.length := by subst hF; first | rfl | exact List.length_map _
  have hwf2 : IWf (F.map (·.2)) := by
    rw [hF]
    exact hE.wf2
  have hFg : ∀ (i : Nat) (p1 p2 : Int), E[i]? = some (p1, p2) → F[i]? = some (p1, p2) := fun i p1 p2 h => by subst hF; first | exact h | (simp [rev]; exact ⟨_, _, h, rfl, rfl⟩) | (simp [rev, h])
  replace hwf2 := Lib.hid hwf2
  replace hE := Lib.hid hE
  replace hF := Lib.hid hF
  replace hFg := Lib.hid hFg
  replace hFl := Lib.hid hFl
  go_enter Try.func26, Try.ntmps26
  go_wp2
  go_loopg [7, 8, 9, 10, 11, 12, 13, 14] (2 * E.length + 1) (fun g vl vt _ _ _ _ _ _ wr => ∃ acc todo : List Int, g + 2 * acc.length = 2 * E.length + todo.length ∧ acc.length ≤ E.length ∧ todo.length ≤ acc.length + 1 ∧ Aside (Sr F s acc todo ∧ RQ w wr vl vt acc todo))
  case atStart =>
    refine ⟨[], [s], by simp, by simp, by simp, Sr.start _ _, World.ownsRow_nil _ _ _ _, ⟨w.heap.size, 0, 1, #[.int .i64 s], rfl, Nat.le_refl _, heap_alloc_new w _, Nat.le_refl _, by simp, fun j hj => by
      obtain rfl : j = 0 := by simpa using hj
      rfl⟩, fun k hk => by simp [Value.ownBlock] at hk, (Below.refl _ _).alloc (Nat.le_refl _) _⟩
  case round =>
    obtain ⟨acc, todo, hg, hal, htl, hA⟩ := hrel
    obtain ⟨hSr, ho, hq, hd, hb⟩ := hA.out
    obtain ⟨gq, oq, mq, cq, rfl, hmq, hcq, hqc⟩ := form_len hq
    cases todo with
    | nil =>
      obtain rfl : mq = 0 := hmq
      obtain ⟨a6, c6, rfl, _⟩ := IAt.own ho
      obtain ⟨e1, e2⟩ := hSr.end_
      have e3 : IWf acc := fun x hx => hwf2.out x (rt_target ((e2 x).1 hx))
      go_wp2
      go_ret
      exact ⟨_, acc, rfl, ho, e1, e2, e3, hal, hb⟩
    | cons n todo =>
      have hcn := hqc 0 (by simp)
      simp only [List.length_cons, List.getElem_cons_zero, Nat.add_zero] at hcn htl hg hcq hmq
      have hq0 := hq
      rw [hmq] at hq0
      have hmk : 0 < mq := by omega
      have hm1 : mq - 1 = todo.length := by omega
      replace hmq := Lib.hid hmq
      obtain ⟨o1, ho1⟩ : ∃ o1, o1 = if cq = 1 then oq else oq + 1 := ⟨_, rfl⟩
      have hI0 : RQ w wr _ (.slice (some ⟨gq, o1, none⟩) todo.length (cq - 1)) acc todo := ⟨ho, hq0.pop (cap := cq) o1 ho1, hd, hb⟩
      have hif : (if cq = 1 then (some ⟨gq, oq, none⟩ : Option Addr) else some ⟨gq, oq + 1, none⟩) = some ⟨gq, o1, none⟩ := by rw [ho1]; split <;> rfl
      have hSm := Lib.hid hSr.popFront
      obtain ⟨al, cl, rfl, _⟩ := IAt.own ho
      replace hI0 := Lib.hid hI0
      clear ho1 ho hb hA hSr hq hq0 hqc hd
      go_wp2
      go_loopw [7, 8, 10, 11, 12, 13, 14] (fun vl vt i _ _ _ _ wr2 => ∃ (j : Nat) (acc2 todo2 : List Int), j ≤ E.length ∧ i = .int .i64 j ∧ acc2.length + todo.length = todo2.length + acc.length ∧ acc.length ≤ acc2.length ∧ Aside (Sm F s n (nxt (F.take j) n) acc2 todo2 ∧ RQ w wr2 vl vt acc2 todo2)) (fun _ _ i _ _ _ _ _ => E.length - (intOf i).toNat)
      case atStart => exact ⟨0, acc, todo, Nat.zero_le _, rfl, by omega, Nat.le_refl _, hSm.out, hI0.out⟩
      case round =>
        obtain ⟨j, acc2, todo2, hj, rfl, hm1, hm2, hA2⟩ := hrel
        obtain ⟨hS2, hI2⟩ := hA2.out
        have hal2 : acc2.length ≤ E.length := by have := acc_len hS2.nd hS2.reach; rw [hFl.out] at this; exact this
        obtain ⟨al2, cl2, rfl, hL2⟩ := IAt.own hI2.1
        obtain ⟨gt2, ot2, ct2, rfl, hct2, _⟩ := hI2.2.1.form
        have hE2 := hE.out.more hI2.2.2.2
        replace hS2 := Lib.hid hS2
        replace hI2 := Lib.hid hI2
        clear hA2 hSm hI0 hcn hif
        by_cases hjl : j < E.length
        · obtain ⟨bE, oE, rfl, hc1, hc2, hw1, hw2⟩ := hE2 j hjl
          obtain ⟨p1, hp1⟩ : ∃ p1, p1 = E[j].1 := ⟨_, rfl⟩
          obtain ⟨p2, hp2⟩ : ∃ p2, p2 = E[j].2 := ⟨_, rfl⟩
          have hFj := Lib.hid (hFg.out j p1 p2 (by rw [List.getElem?_eq_getElem hjl, hp1, hp2]))
          rw [← hp1] at hc1 hw1
          rw [← hp2] at hc2 hw2
          have hjk : (j : Int) < E.length := by omega
          clear hp1 hp2 hE2
          go_wp2
          go_region
          all_goals
            by_cases hx : p1 = n
            · subst hx
              go_wp2
              go_loopw [13, 14] (fun x k wr3 => ∃ q : Nat, q ≤ acc2.length ∧ k = .int .i64 q ∧ x = .bool (decide (p2 ∈ acc2.take q)) ∧ wr3 = wr.drew) (fun _ k _ => acc2.length - (intOf k).toNat)
              case atStart => exact ⟨0, Nat.zero_le _, rfl, by simp, rfl⟩
              case round =>
                obtain ⟨q, hq, rfl, rfl, rfl⟩ := hrel
                by_cases hql : q < acc2.length
                · obtain ⟨bL, oL, rfl, hcL⟩ := hL2 q hql
                  have hqk : (q : Int) < acc2.length := by omega
                  have hts : acc2.take (q + 1) = acc2.take q ++ [acc2[q]] := List.take_succ_eq_append_getElem hql
                  obtain ⟨z, hz⟩ : ∃ z, z = acc2[q] := ⟨_, rfl⟩
                  rw [← hz] at hts hcL
                  clear hz
                  by_cases hin : p2 ∈ acc2.take q
                  · have hd1 : decide (p2 ∈ acc2.take q) = true := decide_eq_true hin
                    rw [hd1]
                    replace hts := Lib.hid hts
                    replace hd1 := Lib.hid hd1
                    replace hin := Lib.hid hin
                    go_wp2
                    go_roundw
                    case rel => exact ⟨q + 1, hql, by go_num, by rw [hts.out]; simp [hin.out], trivial⟩
                    case measure => simp [intOf]; omega
                  · have hd1 : decide (p2 ∈ acc2.take q) = false := decide_eq_false hin
                    rw [hd1]
                    replace hts := Lib.hid hts
                    replace hd1 := Lib.hid hd1
                    replace hin := Lib.hid hin
                    have hzm : p2 ∈ acc2.take (q + 1) ↔ z = p2 := by
                      rw [hts.out, List.mem_append, List.mem_singleton]
                      exact ⟨fun h => h.elim (fun h => absurd h hin.out) Eq.symm, fun h => .inr h.symm⟩
                    have hzz : (z == p2) = decide (p2 ∈ acc2.take (q + 1)) := by
                      rw [Bool.eq_iff_iff, beq_iff_eq, decide_eq_true_eq]
                      exact hzm.symm
                    clear hzm
                    obtain ⟨bz, hbz⟩ : ∃ bz, bz = decide (p2 ∈ acc2.take (q + 1)) := ⟨_, rfl⟩
                    rw [← hbz] at hzz
                    replace hbz := Lib.hid hbz
                    go_wp2
                    go_roundw
                    case rel => exact ⟨q + 1, hql, by go_num, by rw [hbz.out], trivial⟩
                    case measure => simp [intOf]; omega
                · obtain rfl : q = acc2.length := by omega
                  rw [List.take_length]
                  by_cases hin : p2 ∈ acc2
                  · have hd1 : decide (p2 ∈ acc2) = true := decide_eq_true hin
                    rw [hd1]
                    have hS3 : Sm F s p1 (nxt (F.take (j + 1)) p1) acc2 todo2 := by rw [nxt_step hFj.out]; exact hS2.out.old hin
                    replace hS3 := Lib.hid hS3
                    replace hd1 := Lib.hid hd1
                    clear hin hS2
                    go_wp2
                    go_roundw
                    case rel => exact ⟨j + 1, acc2, todo2, hjl, by go_num, hm1, hm2, hS3.out, hI2.out.drew⟩
                    case measure => simp [intOf]; omega
                  · have hd1 : decide (p2 ∈ acc2) = false := decide_eq_false hin
                    rw [hd1]
                    have hmem : (p1, p2) ∈ F := List.mem_of_getElem? hFj.out
                    have hS3 : Sm F s p1 (nxt (F.take (j + 1)) p1) (acc2 ++ [p2]) (todo2 ++ [p2]) := by rw [nxt_step hFj.out]; exact hS2.out.new hin hmem
                    replace hS3 := Lib.hid hS3
                    replace hd1 := Lib.hid hd1
                    have hI3 := Lib.hid hI2.out.drew
                    have hsz := hI2.out.2.2.2.size
                    clear hin hS2 hmem
                    go_wp2_with (at_builtin; first | (refine wpList_append_own' rfl _ _ 25 rfl w.heap.size 3 ii (.int .i64 0) 1 8 Try.underlying25 hi0 hz0 hz1 hz2 rfl (by decide) _ _ (icells acc2) rfl (hI3.out.1.alloc _) ⟨wr.heap.size, 0, none⟩ 1 1 [.int .i64 p2] rfl rfl (new_one _ (by simp)) (by intro u hu; rw [List.mem_singleton.1 hu]; rfl) (by unfold maxLen; omega) (by omega) (by simp; omega) ?_; intro v4 w4 ho4 hg4 hl4; have hI4 := Lib.hid (hI3.out.one ho4 hg4 hl4); have hsz4 := hI4.out.2.2.2.size; obtain ⟨a4, m4, c4, rfl, rfl⟩ := own_form ho4; clear ho4 hg4 hl4) | (refine wpList_push rfl _ _ rfl w.heap.size ii hi0 hz0 hz1 hz2 _ todo2 rfl (hI4.out.2.1.kept (S := fun _ => False) ((Chg.refl _ _).alloc _) (fun _ _ => id)) ⟨w4.heap.size, 0, none⟩ 1 p2 rfl (cell_of (heap_alloc_new w4 _) rfl) (by omega) (by simp; omega) ?_; intro v5 w5 hq5 hg5 hl5; have hI5 := Lib.hid (hI4.out.two hq5 hg5 hl5); clear hq5 hg5 hl5))
                    go_roundw
                    case rel => exact ⟨j + 1, acc2 ++ [p2], todo2 ++ [p2], hjl, by go_num, by simp; omega, by simp; omega, hS3.out, hI5.out⟩
                    case measure => simp [intOf]; omega
            · have hxb : (p1 == n) = false := beq_eq_false_iff_ne.2 hx
              have hS3 : Sm F s n (nxt (F.take (j + 1)) n) acc2 todo2 := by rw [nxt_skip hFj.out hx]; exact hS2.out
              replace hS3 := Lib.hid hS3
              clear hx
              go_wp2
              go_roundw
              case rel => exact ⟨j + 1, acc2, todo2, hjl, by go_num, hm1, hm2, hS3.out, hI2.out.drew⟩
              case measure => simp [intOf]; omega
        · obtain rfl : j = E.length := by omega
          have hfin : Sr F s acc2 todo2 := by
            have h := hS2.out
            rw [List.take_of_length_le (by rw [hFl.out]; exact Nat.le_refl _)] at h
            exact h.all
          replace hfin := Lib.hid hfin
          go_wp2
          go_roundg (2 * E.length + todo2.length - 2 * acc2.length)
          case measure => omega
          case rel => exact ⟨acc2, todo2, by omega, hal2, by omega, hfin.out, hI2.out⟩
set_option maxRecDepth 100000 in
set_option maxHeartbeats 3200000 in
theorem rreach_behind (a : Option Addr) (c : Nat) (E F : List (Int × Int)) (hF : F = rev E) (s : Int) (w : World) (hE : PAt w a E) (hl : E.length ≤ 100000) (hs : (Lit.int .i64 s).wf = true) :
    Calls Try.prog 26 #[.int .i64 s, .slice a E.length c, .bool true] w fun e w' => ∃ (v : Value) (acc : List Int), e = .returned v ∧ w'.ownsRow w.heap.size 3 1 v acc.length (icells acc) ∧ acc.Nodup ∧ (∀ x, x ∈ acc ↔ Rt F s x) ∧ IWf acc ∧ acc.length ≤ E.length ∧ Below w.heap.size w w' := by
  obtain ⟨ii, hi0, hz0, hz1, hz2⟩ := info_parts infoInt
  have hFl : F.length = E.length := by subst hF; first | rfl | exact List.length_map _
  have hwf2 : IWf (F.map (·.2)) := by
    rw [hF]
    exact fun x hx => by simp only [rev, List.map_map] at hx; exact hE.wf1 x (by simpa using hx)
  have hFg : ∀ (i : Nat) (p1 p2 : Int), E[i]? = some (p1, p2) → F[i]? = some (p2, p1) := fun i p1 p2 h => by subst hF; first | exact h | (simp [rev]; exact ⟨_, _, h, rfl, rfl⟩) | (simp [rev, h])
  replace hwf2 := Lib.hid hwf2
  replace hE := Lib.hid hE
  replace hF := Lib.hid hF
  replace hFg := Lib.hid hFg
  replace hFl := Lib.hid hFl
  go_enter Try.func26, Try.ntmps26
  go_wp2
  go_loopg [7, 8, 9, 10, 11, 12, 13, 14] (2 * E.length + 1) (fun g vl vt _ _ _ _ _ _ wr => ∃ acc todo : List Int, g + 2 * acc.length = 2 * E.length + todo.length ∧ acc.length ≤ E.length ∧ todo.length ≤ acc.length + 1 ∧ Aside (Sr F s acc todo ∧ RQ w wr vl vt acc todo))
  case atStart =>
    refine ⟨[], [s], by simp, by simp, by simp, Sr.start _ _, World.ownsRow_nil _ _ _ _, ⟨w.heap.size, 0, 1, #[.int .i64 s], rfl, Nat.le_refl _, heap_alloc_new w _, Nat.le_refl _, by simp, fun j hj => by
      obtain rfl : j = 0 := by simpa using hj
      rfl⟩, fun k hk => by simp [Value.ownBlock] at hk, (Below.refl _ _).alloc (Nat.le_refl _) _⟩
  case round =>
    obtain ⟨acc, todo, hg, hal, htl, hA⟩ := hrel
    obtain ⟨hSr, ho, hq, hd, hb⟩ := hA.out
    obtain ⟨gq, oq, mq, cq, rfl, hmq, hcq, hqc⟩ := form_len hq
    cases todo with
    | nil =>
      obtain rfl : mq = 0 := hmq
      obtain ⟨a6, c6, rfl, _⟩ := IAt.own ho
      obtain ⟨e1, e2⟩ := hSr.end_
      have e3 : IWf acc := fun x hx => hwf2.out x (rt_target ((e2 x).1 hx))
      go_wp2
      go_ret
      exact ⟨_, acc, rfl, ho, e1, e2, e3, hal, hb⟩
    | cons n todo =>
      have hcn := hqc 0 (by simp)
      simp only [List.length_cons, List.getElem_cons_zero, Nat.add_zero] at hcn htl hg hcq hmq
      have hq0 := hq
      rw [hmq] at hq0
      have hmk : 0 < mq := by omega
      have hm1 : mq - 1 = todo.length := by omega
      replace hmq := Lib.hid hmq
      obtain ⟨o1, ho1⟩ : ∃ o1, o1 = if cq = 1 then oq else oq + 1 := ⟨_, rfl⟩
      have hI0 : RQ w wr _ (.slice (some ⟨gq, o1, none⟩) todo.length (cq - 1)) acc todo := ⟨ho, hq0.pop (cap := cq) o1 ho1, hd, hb⟩
      have hif : (if cq = 1 then (some ⟨gq, oq, none⟩ : Option Addr) else some ⟨gq, oq + 1, none⟩) = some ⟨gq, o1, none⟩ := by rw [ho1]; split <;> rfl
      have hSm := Lib.hid hSr.popFront
      obtain ⟨al, cl, rfl, _⟩ := IAt.own ho
      replace hI0 := Lib.hid hI0
      clear ho1 ho hb hA hSr hq hq0 hqc hd
      go_wp2
      go_loopw [7, 8, 10, 11, 12, 13, 14] (fun vl vt i _ _ _ _ wr2 => ∃ (j : Nat) (acc2 todo2 : List Int), j ≤ E.length ∧ i = .int .i64 j ∧ acc2.length + todo.length = todo2.length + acc.length ∧ acc.length ≤ acc2.length ∧ Aside (Sm F s n (nxt (F.take j) n) acc2 todo2 ∧ RQ w wr2 vl vt acc2 todo2)) (fun _ _ i _ _ _ _ _ => E.length - (intOf i).toNat)
      case atStart => exact ⟨0, acc, todo, Nat.zero_le _, rfl, by omega, Nat.le_refl _, hSm.out, hI0.out⟩
      case round =>
        obtain ⟨j, acc2, todo2, hj, rfl, hm1, hm2, hA2⟩ := hrel
        obtain ⟨hS2, hI2⟩ := hA2.out
        have hal2 : acc2.length ≤ E.length := by have := acc_len hS2.nd hS2.reach; rw [hFl.out] at this; exact this
        obtain ⟨al2, cl2, rfl, hL2⟩ := IAt.own hI2.1
        obtain ⟨gt2, ot2, ct2, rfl, hct2, _⟩ := hI2.2.1.form
        have hE2 := hE.out.more hI2.2.2.2
        replace hS2 := Lib.hid hS2
        replace hI2 := Lib.hid hI2
        clear hA2 hSm hI0 hcn hif
        by_cases hjl : j < E.length
        · obtain ⟨bE, oE, rfl, hc1, hc2, hw1, hw2⟩ := hE2 j hjl
          obtain ⟨p1, hp1⟩ : ∃ p1, p1 = E[j].1 := ⟨_, rfl⟩
          obtain ⟨p2, hp2⟩ : ∃ p2, p2 = E[j].2 := ⟨_, rfl⟩
          have hFj := Lib.hid (hFg.out j p1 p2 (by rw [List.getElem?_eq_getElem hjl, hp1, hp2]))
          rw [← hp1] at hc1 hw1
          rw [← hp2] at hc2 hw2
          have hjk : (j : Int) < E.length := by omega
          clear hp1 hp2 hE2
          go_wp2
          go_region
          all_goals
            by_cases hx : p2 = n
            · subst hx
              go_wp2
              go_loopw [13, 14] (fun x k wr3 => ∃ q : Nat, q ≤ acc2.length ∧ k = .int .i64 q ∧ x = .bool (decide (p1 ∈ acc2.take q)) ∧ wr3 = wr.drew) (fun _ k _ => acc2.length - (intOf k).toNat)
              case atStart => exact ⟨0, Nat.zero_le _, rfl, by simp, rfl⟩
              case round =>
                obtain ⟨q, hq, rfl, rfl, rfl⟩ := hrel
                by_cases hql : q < acc2.length
                · obtain ⟨bL, oL, rfl, hcL⟩ := hL2 q hql
                  have hqk : (q : Int) < acc2.length := by omega
                  have hts : acc2.take (q + 1) = acc2.take q ++ [acc2[q]] := List.take_succ_eq_append_getElem hql
                  obtain ⟨z, hz⟩ : ∃ z, z = acc2[q] := ⟨_, rfl⟩
                  rw [← hz] at hts hcL
                  clear hz
                  by_cases hin : p1 ∈ acc2.take q
                  · have hd1 : decide (p1 ∈ acc2.take q) = true := decide_eq_true hin
                    rw [hd1]
                    replace hts := Lib.hid hts
                    replace hd1 := Lib.hid hd1
                    replace hin := Lib.hid hin
                    go_wp2
                    go_roundw
                    case rel => exact ⟨q + 1, hql, by go_num, by rw [hts.out]; simp [hin.out], trivial⟩
                    case measure => simp [intOf]; omega
                  · have hd1 : decide (p1 ∈ acc2.take q) = false := decide_eq_false hin
                    rw [hd1]
                    replace hts := Lib.hid hts
                    replace hd1 := Lib.hid hd1
                    replace hin := Lib.hid hin
                    have hzm : p1 ∈ acc2.take (q + 1) ↔ z = p1 := by
                      rw [hts.out, List.mem_append, List.mem_singleton]
                      exact ⟨fun h => h.elim (fun h => absurd h hin.out) Eq.symm, fun h => .inr h.symm⟩
                    have hzz : (z == p1) = decide (p1 ∈ acc2.take (q + 1)) := by
                      rw [Bool.eq_iff_iff, beq_iff_eq, decide_eq_true_eq]
                      exact hzm.symm
                    clear hzm
                    obtain ⟨bz, hbz⟩ : ∃ bz, bz = decide (p1 ∈ acc2.take (q + 1)) := ⟨_, rfl⟩
                    rw [← hbz] at hzz
                    replace hbz := Lib.hid hbz
                    go_wp2
                    go_roundw
                    case rel => exact ⟨q + 1, hql, by go_num, by rw [hbz.out], trivial⟩
                    case measure => simp [intOf]; omega
                · obtain rfl : q = acc2.length := by omega
                  rw [List.take_length]
                  by_cases hin : p1 ∈ acc2
                  · have hd1 : decide (p1 ∈ acc2) = true := decide_eq_true hin
                    rw [hd1]
                    have hS3 : Sm F s p2 (nxt (F.take (j + 1)) p2) acc2 todo2 := by rw [nxt_step hFj.out]; exact hS2.out.old hin
                    replace hS3 := Lib.hid hS3
                    replace hd1 := Lib.hid hd1
                    clear hin hS2
                    go_wp2
                    go_roundw
                    case rel => exact ⟨j + 1, acc2, todo2, hjl, by go_num, hm1, hm2, hS3.out, hI2.out.drew⟩
                    case measure => simp [intOf]; omega
                  · have hd1 : decide (p1 ∈ acc2) = false := decide_eq_false hin
                    rw [hd1]
                    have hmem : (p2, p1) ∈ F := List.mem_of_getElem? hFj.out
                    have hS3 : Sm F s p2 (nxt (F.take (j + 1)) p2) (acc2 ++ [p1]) (todo2 ++ [p1]) := by rw [nxt_step hFj.out]; exact hS2.out.new hin hmem
                    replace hS3 := Lib.hid hS3
                    replace hd1 := Lib.hid hd1
                    have hI3 := Lib.hid hI2.out.drew
                    have hsz := hI2.out.2.2.2.size
                    clear hin hS2 hmem
                    go_wp2_with (at_builtin; first | (refine wpList_append_own' rfl _ _ 25 rfl w.heap.size 3 ii (.int .i64 0) 1 8 Try.underlying25 hi0 hz0 hz1 hz2 rfl (by decide) _ _ (icells acc2) rfl (hI3.out.1.alloc _) ⟨wr.heap.size, 0, none⟩ 1 1 [.int .i64 p1] rfl rfl (new_one _ (by simp)) (by intro u hu; rw [List.mem_singleton.1 hu]; rfl) (by unfold maxLen; omega) (by omega) (by simp; omega) ?_; intro v4 w4 ho4 hg4 hl4; have hI4 := Lib.hid (hI3.out.one ho4 hg4 hl4); have hsz4 := hI4.out.2.2.2.size; obtain ⟨a4, m4, c4, rfl, rfl⟩ := own_form ho4; clear ho4 hg4 hl4) | (refine wpList_push rfl _ _ rfl w.heap.size ii hi0 hz0 hz1 hz2 _ todo2 rfl (hI4.out.2.1.kept (S := fun _ => False) ((Chg.refl _ _).alloc _) (fun _ _ => id)) ⟨w4.heap.size, 0, none⟩ 1 p1 rfl (cell_of (heap_alloc_new w4 _) rfl) (by omega) (by simp; omega) ?_; intro v5 w5 hq5 hg5 hl5; have hI5 := Lib.hid (hI4.out.two hq5 hg5 hl5); clear hq5 hg5 hl5))
                    go_roundw
                    case rel => exact ⟨j + 1, acc2 ++ [p1], todo2 ++ [p1], hjl, by go_num, by simp; omega, by simp; omega, hS3.out, hI5.out⟩
                    case measure => simp [intOf]; omega
            · have hxb : (p2 == n) = false := beq_eq_false_iff_ne.2 hx
              have hS3 : Sm F s n (nxt (F.take (j + 1)) n) acc2 todo2 := by rw [nxt_skip hFj.out hx]; exact hS2.out
              replace hS3 := Lib.hid hS3
              clear hx
              go_wp2
              go_roundw
              case rel => exact ⟨j + 1, acc2, todo2, hjl, by go_num, hm1, hm2, hS3.out, hI2.out.drew⟩
              case measure => simp [intOf]; omega
        · obtain rfl : j = E.length := by omega
          have hfin : Sr F s acc2 todo2 := by
            have h := hS2.out
            rw [List.take_of_length_le (by rw [hFl.out]; exact Nat.le_refl _)] at h
            exact h.all
          replace hfin := Lib.hid hfin
          go_wp2
          go_roundg (2 * E.length + todo2.length - 2 * acc2.length)
          case measure => omega
          case rel => exact ⟨acc2, todo2, by omega, hal2, by omega, hfin.out, hI2.out⟩
end Go.Proofs.Ytakgehcfomfmdaa
