/- The document's disk, made anew; nil disks. No condition. -/
import Derived.Test.YtnphpnbliigfbaaRD2
import Derived.Test.YtnphpnbliigfbaaDi
import Derived.Deep.RegionLaw
namespace Go.Proofs.Ytnphpnbliigfbaa
open Go.RowKit
theorem new_str {w : World} {b' : Nat} {x : Value} (t : TypeId) (hb : b' = w.heap.size) : ∀ j u, [x][j]? = some u → (w.alloc (.cells #[x] t)).cell? (Addr.add ⟨b', 0, none⟩ j) = some u := by
  subst hb
  intro j u hj
  match j, hj with
  | 0, hj =>
    cases hj
    rw [Addr.add_lit]
    exact cell_of (heap_alloc_new w _) rfl
  | n + 1, hj => simp at hj
theorem rDisks_nil (n : Int) (w : World) (h : n < 1 ∨ 10000 < n) : Calls Try.prog 24 #[.int .i64 n] w fun e w' => e = .returned (.pointer none) ∧ w = w' := by
  by_cases h1 : n < 1
  · clear h
    go_enter Try.func24, Try.ntmps24
    go_wp2
    go_ret
    exact ⟨rfl, rfl⟩
  · have h2 : 10000 < n := by omega
    clear h
    go_enter Try.func24, Try.ntmps24
    go_wp2
    go_ret
    exact ⟨rfl, rfl⟩
theorem blk_of {B : Nat} {x : World} {v v1 v2 v3 : Value} {t : TypeId} (h : x.heap[B]? = some (.cells #[v, v1, v2, v3] t (0, 0))) : x.cell? ⟨B, 0, none⟩ = some v ∧ x.frozen? ⟨B, 0, none⟩ = false ∧ B < x.heap.size := ⟨cell_of h rfl, free_of h, lt_of h⟩
/-- How far it has come. -/
def RNew (w wr : World) (k : Nat) (v : Value) : Prop :=
  wr.heap[w.heap.size]? = some (.cells #[v, .slice none 0 0, .bool false, .int .i64 (-1)] 52 (0, 0)) ∧ wr.ownsRow (w.heap.size + 1) 9 1 v k (scells (List.replicate k zsec)) ∧ Below w.heap.size w wr
theorem rnew_end {w wr wq w6 : World} {k : Nat} {v v6 : Value} {Z : ByteArray} {x : Obj} (_h : RNew w wr k v) (hb : Below w.heap.size w wq) (hbq : wq.heap[w.heap.size]? = some (.cells #[v, .slice none 0 0, .bool false, .int .i64 (-1)] 52 (0, 0))) (ho : wq.ownsRow (w.heap.size + 1) 9 1 v k (scells (List.replicate k zsec)))
    (hg : (wq.alloc x).grownBy w6 v.ownBlock) (ho6 : w6.ownsRow (w.heap.size + 1) 9 1 v6 (k + 1) (scells (List.replicate k zsec) ++ [.string Z])) :
    (∃ a l c, v6 = .slice a l c) ∧ w6.heap[w.heap.size]? = some (.cells #[v, .slice none 0 0, .bool false, .int .i64 (-1)] 52 (0, 0)) ∧ (Z = mk zsec → RNew w (w6.setCell ⟨w.heap.size, 0, none⟩ v6) (k + 1) v6) := by
  obtain ⟨a, l, c, e, _⟩ := own_form ho6
  have hc : Chg (fun j => v.ownBlock = some j) wq w6 := ((Chg.refl _ wq).alloc x).grown hg (fun j _ e => e)
  have hb6 := hc.heap hbq (fun e => by have := (ho.lt _ e).1; omega)
  refine ⟨⟨a, l, c, e⟩, hb6, fun hZ => ⟨?_, ?_, ?_⟩⟩
  · simpa using heap_setCell (i := 0) hb6 v6
  · subst hZ
    have : scells (List.replicate (k + 1) zsec) = scells (List.replicate k zsec) ++ [.string (mk zsec)] := by
      rw [List.replicate_succ']
      simp [scells]
    rw [this]
    exact ownsRow_setCell_other ho6 (fun e => by have := (ho6.lt w.heap.size e).1; omega) _
  · have h2 := hb.size
    exact (hb.trans (hc.below (fun j _ e => by have := (ho.lt j e).1; omega) h2)).trans (((Chg.refl (fun j => j = w.heap.size) w6).setCell (a := ⟨w.heap.size, 0, none⟩) (fun _ => rfl) v6).below (fun j _ e => by omega) (Nat.le_trans h2 hc.size))
theorem RNew.start (w : World) : RNew w (w.alloc (.cells #[.slice none 0 0, .slice none 0 0, .bool false, .int .i64 (-1)] 52)) 0 (.slice none 0 0) :=
  ⟨heap_alloc_new w _, World.ownsRow_nil _ _ _ _, (Below.refl _ _).alloc (Nat.le_refl _) _⟩
set_option maxHeartbeats 1600000 in
theorem rDisks (n : Nat) (w : World) (h1 : 1 ≤ n) (h2 : n ≤ 10000) : Calls Try.prog 24 #[.int .i64 n] w fun e w' => ∃ B rs, e = .returned (.pointer (some ⟨B, 0, none⟩)) ∧ RAt w' B rs none (dnew n) ∧ Below w.heap.size w w' ∧ (∀ k, RS B rs none k → w.heap.size ≤ k) := by
  obtain ⟨i, hi, hz0, hz1, hz2⟩ := info_parts Try.infoStr
  have g1 : ¬ ((n : Nat) : Int) < 1 := by omega
  have g2 : ¬ (10000 : Int) < ((n : Nat) : Int) := by omega
  obtain ⟨Z, hZ⟩ : ∃ Z, Z = mk zsec := ⟨_, rfl⟩
  have zc : ∀ x, Calls Try.prog 33 #[.int .i64 64] x fun e w' => e = .returned (.string Z) ∧ Below x.heap.size x w' := fun x => by
    have := zeros_any 64 x (by omega)
    rw [← zsec_eq, ← hZ] at this
    exact this
  replace hZ := Lib.hid hZ
  replace zc := Lib.hid zc
  go_enter Try.func24, Try.ntmps24
  go_wp2
  go_loopg [4] n (fun g iv wr => ∃ (k : Nat) (v : Value), g + k = n ∧ iv = .int .i64 k ∧ Aside (RNew w wr k v))
  case atStart => exact ⟨0, .slice none 0 0, rfl, rfl, RNew.start w⟩
  case round =>
    obtain ⟨k, v, hk, rfl, hI⟩ := hrel
    obtain ⟨i1, i2, i3⟩ := hI.out
    by_cases hlt : k < n
    · have c0 : wr.cell? ⟨w.heap.size, 0, none⟩ = some v := cell_of i1 rfl
      have hz := i3.size
      have hB : w.heap.size < wr.heap.size := lt_of i1
      obtain ⟨av, lv, cv, rfl, hlv⟩ := own_form i2
      subst lv
      replace hI := Lib.hid hI.out
      replace i2 := Lib.hid i2.drew
      have hf0 : wr.frozen? ⟨w.heap.size, 0, none⟩ = false := free_of i1
      have hi3 := Lib.hid i3.drew
      have i1 : Hid (wr.drew.heap[w.heap.size]? = some (.cells #[.slice av k cv, .slice none 0 0, .bool false, .int .i64 (-1)] 52 (0, 0))) := Lib.hid i1
      clear i3
      go_wp2
      go_region_law (first | (refine step_append_own (by rfl) (.tmp 22) (.tmp 24) 36 (by rfl) (w.heap.size + 1) 9 i (.string ByteArray.empty) 1 16 Try.underlying36 hi hz0 hz1 hz2 rfl (by decide) _ _ _ (by simp [Act.eval, Act.put]) (hoq.out.alloc _) ⟨wq.heap.size, 0, none⟩ 1 1 [.string Z] (by simp [Act.eval, Act.put]) rfl (new_str _ rfl) (by intro u hu; simp at hu; rw [hu]; rfl) (by unfold maxLen; omega) (by omega) (by simp; omega) ?_; intro v6 w6 hown6 hgrow6 hrow6; obtain ⟨⟨a6, l6, c6, rfl⟩, hb6, hcc⟩ := rnew_end hI.out hcq.out hbq.out hoq.out hgrow6 hown6; obtain ⟨hsx0, hsx1, hsx2⟩ := blk_of hb6; replace hb6 := Lib.hid hb6; replace hcc := Lib.hid hcc; clear hown6 hgrow6 hrow6) | (go_simp; go_at_call 33; refine (zc.out _).mono ?_; rintro e wq ⟨rfl, hq⟩; have hoq := Lib.hid ((Chg.of_below (S := fun _ => False) hq).row i2.out (fun _ _ => id)); have hbq := (Chg.of_below (S := fun _ => False) hq).heap i1.out id; obtain ⟨hs1, hs2, hs3⟩ := blk_of hbq; have hcq := Lib.hid (hi3.out.trans (hq.mono hz)); replace hbq := Lib.hid hbq; clear hq))
      all_goals
        have hfin := Lib.hid (hcc.out hZ.out)
        clear hcc hb6 hbq hoq hcq i1 i2 hi3 hI
        go_wp2
        go_roundg (n - (k + 1))
        case rel => exact ⟨k + 1, _, by omega, by go_num, hfin.out⟩
        case measure => omega
    · obtain rfl : k = n := by omega
      have hfin : RAt wr w.heap.size v.ownBlock none (dnew k) := by
        refine ⟨⟨by simp [dnew]; omega, fun s hs => ?_, by simp [dnew], by simp [dnew], by simp [dnew]⟩, v, .slice none 0 0, rfl, rfl, by simpa [dnew, aft] using i1, ?_, World.ownsRow_nil _ _ _ _⟩
        · have := List.eq_of_mem_replicate hs
          rw [this]; exact zsec_length
        · have := own_base i2
          simpa [dnew] using this
      have hd : ∀ j, RS w.heap.size v.ownBlock none j → w.heap.size ≤ j := by
        rintro j (rfl | e | e)
        · exact Nat.le_refl _
        · have := (i2.lt j e).1; omega
        · cases e
      replace hfin := Lib.hid hfin
      replace hd := Lib.hid hd
      replace i3 := Lib.hid i3
      clear i1 i2 hI
      go_wp2
      go_ret
      exact ⟨_, _, rfl, hfin.out, i3.out, hd.out⟩
/-! ### nil disks -/
theorem nDead (w : World) : Calls Try.prog 21 #[.pointer none] w fun e w' => e = .returned (.bool true) ∧ w = w' := by
  go_enter Try.func21, Try.ntmps21
  go_wp2
  go_ret
  exact ⟨rfl, rfl⟩
theorem nRead (n : Int) (w : World) : Calls Try.prog 19 #[.pointer none, .int .i64 n] w fun e w' => e = .returned (.tuple #[.string ⟨#[]⟩, .int .i64 10]) ∧ w = w' := by
  have C := Lib.hid (nDead w)
  go_enter Try.func19, Try.ntmps19
  go_wp2_with (first | (go_at_call 21; refine C.out.mono ?_; rintro e w' ⟨rfl, rfl⟩))
  go_ret2
  exact ⟨rfl, rfl⟩
theorem nWrite (n : Int) (s : ByteArray) (w : World) : Calls Try.prog 14 #[.pointer none, .int .i64 n, .string s] w fun e w' => e = .returned (.int .i64 10) ∧ w = w' := by
  have C := Lib.hid (nDead w)
  go_enter Try.func14, Try.ntmps14
  go_wp2_with (first | (go_at_call 21; refine C.out.mono ?_; rintro e w' ⟨rfl, rfl⟩))
  go_ret
  exact ⟨rfl, rfl⟩
theorem nSync (w : World) : Calls Try.prog 16 #[.pointer none] w fun e w' => e = .returned (.int .i64 10) ∧ w = w' := by
  have C := Lib.hid (nDead w)
  go_enter Try.func16, Try.ntmps16
  go_wp2_with (first | (go_at_call 21; refine C.out.mono ?_; rintro e w' ⟨rfl, rfl⟩))
  go_ret
  exact ⟨rfl, rfl⟩
theorem nStop (n : Int) (w : World) : Calls Try.prog 20 #[.pointer none, .int .i64 n] w fun e w' => e = .returned (.tuple #[]) ∧ w = w' := by
  have C := Lib.hid (nDead w)
  go_enter Try.func20, Try.ntmps20
  go_wp2_with (first | (go_at_call 21; refine C.out.mono ?_; rintro e w' ⟨rfl, rfl⟩))
  go_end0
  exact ⟨rfl, rfl⟩
theorem nCrash (w : World) : Calls Try.prog 17 #[.pointer none, .slice none 0 0] w fun e w' => e = .returned (.int .i64 0) ∧ w = w' := by
  go_enter Try.func17, Try.ntmps17
  go_wp2
  go_ret
  exact ⟨rfl, rfl⟩
theorem nPending (w : World) : Calls Try.prog 18 #[.pointer none] w fun e w' => e = .returned (.int .i64 0) ∧ w = w' := by
  go_enter Try.func18, Try.ntmps18
  go_wp2
  go_ret
  exact ⟨rfl, rfl⟩
theorem nSectors (w : World) : Calls Try.prog 22 #[.pointer none] w fun e w' => e = .returned (.int .i64 0) ∧ w = w' := by
  go_enter Try.func22, Try.ntmps22
  go_wp2
  go_ret
  exact ⟨rfl, rfl⟩
theorem nCopy (w : World) : Calls Try.prog 23 #[.pointer none] w fun e w' => e = .returned (.pointer none) ∧ w = w' := by
  go_enter Try.func23, Try.ntmps23
  go_wp2
  go_ret
  exact ⟨rfl, rfl⟩
end Go.Proofs.Ytnphpnbliigfbaa
