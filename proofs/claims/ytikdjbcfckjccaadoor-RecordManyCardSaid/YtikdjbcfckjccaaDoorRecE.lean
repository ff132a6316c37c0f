/- alive of the laws on log records. No condition but the table of spaces. -/
import Derived.Test.YtikdjbcfckjccaaDoorRecH
import Derived.Test.YtikdjbcfckjccaaDoorRecB
import Derived.Test.YtikdjbcfckjccaaDoorRecX4
import Derived.Test.YtikdjbcfckjccaaDoorRecY
namespace Go.Proofs.YtikdjbcfckjccaaDoor
open Go.RowKit
attribute [local go_sem] mk_size mk_append lit_append
def rA : Rec := ⟨1, 3, 7, 0, [107], true, ⟨[107], [118], 0, 0⟩, [5], [⟨2, 9, [120, 121]⟩], [], []⟩
def bA : List UInt8 := enc rA
theorem okA : recOk rA = true := by decide
theorem touchA : touch rA.pats = [2] := by
  have h : rA.pats.map (·.page) = [2] := rfl
  unfold touch
  rw [h, List.mergeSort_singleton]
  decide
theorem lenA : bA.length = 45 := by decide
theorem get_enc {r : Rec} {w w' : World} {e : Ending} (h : GetPost (enc r) w e w') (hr : RecOk r) : ∃ v vp vt vx vd, RecAt w' v vp vt vx vd r ∧ e = .returned (.tuple #[v, .bool true]) ∧ Below w.heap.size w w' := by
  obtain ⟨x, s, hp, hb, h⟩ := h
  obtain ⟨rfl, _⟩ := parsed_enc hr hp
  rcases h with ⟨_, _, v, vp, vt, vx, vd, hR, he⟩ | ⟨h, _⟩
  · exact ⟨v, vp, vt, vx, vd, hR.at_, he, hb⟩
  · exact absurd ⟨hr, rfl⟩ h
theorem isI_nil (w : World) : IsI w (.slice none 0 0) [] := ⟨none, 0, rfl, fun j h => by simp at h⟩
theorem isP_nil (w : World) : IsP w (.slice none 0 0) [] := ⟨none, 0, rfl, fun j h => by simp at h⟩
theorem isT_nil (w : World) : IsT w (.slice none 0 0) [] := ⟨none, 0, rfl, fun j h => by simp at h⟩
theorem isD_nil (w : World) : IsD w (.slice none 0 0) [] := ⟨none, 0, rfl, fun j h => by simp at h⟩
def vA (w : World) : Array Value := #[.int .i64 1, .int .i64 3, .int .i64 7, .int .i64 0, .string ⟨#[107]⟩, .bool true, .string ⟨#[107]⟩, .string ⟨#[118]⟩, .int .i64 0, .int .i64 0, .slice (some ⟨w.heap.size, 0, none⟩) 1 1, .slice (some ⟨w.heap.size + 1, 0, none⟩) 1 1, .slice none 0 0, .slice none 0 0]
theorem start_A (w : World) : ∃ w3, w3 = (((w.alloc (.cells #[.int .i64 5] 3)).alloc (.cells #[.int .i64 2, .int .i64 9, .string ⟨#[120, 121]⟩] 39)).alloc (.cells #[.int .i64 1, .int .i64 3, .int .i64 7, .int .i64 0, .string ⟨#[107]⟩, .bool true, .string ⟨#[107]⟩, .string ⟨#[118]⟩, .int .i64 0, .int .i64 0, .slice (some ⟨w.heap.size, 0, none⟩) 1 1, .slice (some ⟨w.heap.size + 1, 0, none⟩) 1 1, .slice none 0 0, .slice none 0 0] 29)) ∧
    RecAt w3 (.agg (vA w)) (.slice (some ⟨w.heap.size, 0, none⟩) 1 1) (.slice (some ⟨w.heap.size + 1, 0, none⟩) 1 1) (.slice none 0 0) (.slice none 0 0) rA ∧ w3.heap[w.heap.size + 1 + 1]? = some (.cells (vA w) 29 (0, 0)) ∧ Below w.heap.size w w3 := by
  refine ⟨_, rfl, ?_, ?_, ?_⟩
  · have h0 := heap_alloc_new w (.cells #[.int .i64 5] 3 (0, 0))
    have h1 := heap_alloc_new (w.alloc (.cells #[.int .i64 5] 3 (0, 0))) (.cells #[.int .i64 2, .int .i64 9, .string ⟨#[120, 121]⟩] 39 (0, 0))
    rw [World.size_alloc] at h1
    refine ⟨rfl, ⟨_, _, rfl, fun j hj => ?_⟩, ⟨_, _, rfl, fun j hj => ?_⟩, isT_nil _, isD_nil _⟩
    · match j, hj with
      | 0, _ => exact ⟨_, _, rfl, cell_of ((((Chg.refl (fun _ => False) _).alloc _).alloc _).heap h0 id) rfl⟩
    · match j, hj with
      | 0, _ => exact ⟨_, _, rfl, cell_of (((Chg.refl (fun _ => False) _).alloc _).heap h1 id) rfl, cell_of (((Chg.refl (fun _ => False) _).alloc _).heap h1 id) rfl, cell_of (((Chg.refl (fun _ => False) _).alloc _).heap h1 id) rfl⟩
  · have h2 := heap_alloc_new ((w.alloc (.cells #[.int .i64 5] 3 (0, 0))).alloc (.cells #[.int .i64 2, .int .i64 9, .string ⟨#[120, 121]⟩] 39 (0, 0))) (.cells #[.int .i64 1, .int .i64 3, .int .i64 7, .int .i64 0, .string ⟨#[107]⟩, .bool true, .string ⟨#[107]⟩, .string ⟨#[118]⟩, .int .i64 0, .int .i64 0, .slice (some ⟨w.heap.size, 0, none⟩) 1 1, .slice (some ⟨w.heap.size + 1, 0, none⟩) 1 1, .slice none 0 0, .slice none 0 0] 29 (0, 0))
    simp only [World.size_alloc] at h2
    exact h2
  · exact (((Below.refl _ _).alloc (Nat.le_refl _) _).alloc (by simp) _).alloc (by simp; omega) _
set_option maxRecDepth 100000 in
set_option maxHeartbeats 1600000 in
theorem alive_true (w : World) (hT : Tab w) : Calls Tryd.prog 10 #[] w fun e w' => e = .returned (.bool true) ∧ Below w.heap.size w w' := by
  obtain ⟨w3, hw3, hR3, hO3, hb3⟩ := start_A w
  have cP := put_any _ _ _ _ _ rA w3 (hT.more hb3) hR3
  rw [if_pos okA, okA, show enc rA = bA from rfl] at cP
  rw [hw3] at cP
  replace cP := Lib.hid cP
  replace hw3 := Lib.hid hw3
  go_enter Tryd.func10, Tryd.ntmps10
  go_wp2_with fail
  refine cP.out.mono ?_
  rintro e w4 ⟨rfl, hb4⟩
  rw [← hw3.out] at hb4
  have hO4 := (Chg.of_below (S := fun _ => False) hb4).heap hO3 id
  have hR4 := hR3.more hb4
  replace hb4 := hb3.trans (hb4.mono hb3.size)
  have hT4 := hT.more hb4
  clear cP hw3 hR3 hO3 hb3
  have cG := recget_any bA w4 hT4
  replace cG := Lib.hid cG
  go_wp2_with fail
  refine cG.out.mono ?_
  rintro e w5 hG
  obtain ⟨v, vp, vt, vx, vd, hR5, rfl, hb5⟩ := get_enc hG ((recOk_iff _).1 okA)
  have hO5 := (Chg.of_below (S := fun _ => False) hb5).heap hO4 id
  have hR5' := hR4.more hb5
  replace hb5 := hb4.trans (hb5.mono hb4.size)
  have hT5 := hT.more hb5
  clear hG cG hO4 hR4 hT4 hb4
  obtain ⟨a1, c1, a2, c2, a3, c3, a4, c4, rfl, rfl, rfl, rfl, rfl⟩ := recAt_form hR5
  have hal : ∀ o, Below w5.heap.size w5 (w5.alloc o) := fun o => (Below.refl _ _).alloc (Nat.le_refl _) o
  have cS := fun o => sameR_any _ _ _ _ _ _ _ _ _ _ rA rA (w5.alloc o) (hR5.more (hal o)) (hR5'.more (hal o)) ⟨by decide, by decide, by decide, by decide, by intro t ht; cases ht⟩
  rw [decide_eq_true (rfl : rA = rA)] at cS
  obtain ⟨⟨d0, d1, d2, d3, d4, d5, d6⟩, ⟨d7, d8, d9, d10, d11, d12, d13⟩, hl1⟩ := rec_cells hO5
  have hlen : ((mk bA).size : Int) = 45 := by rw [mk_size, lenA]; rfl
  have hsl := fun w => sl_to bA 4 4 rfl (by rw [lenA]; omega) w
  have htk : mk (bA.take 4) = ⟨#[0, 1, 0, 3]⟩ := by
    rw [show bA.take 4 = [0, 1, 0, 3] by decide]; rfl
  rw [htk] at hsl
  replace hO5 := Lib.hid hO5
  replace hR5' := Lib.hid hR5'
  replace hb5 := Lib.hid hb5
  replace hT5 := Lib.hid hT5
  replace hal := Lib.hid hal
  replace cS := Lib.hid cS
  clear hR5
  have hnm : mk (nameOf 2) = ⟨#[117, 110, 100, 111, 110, 101]⟩ := by rw [show nameOf 2 = [117, 110, 100, 111, 110, 101] by decide]; rfl
  go_wp2_with fail
  refine (cS.out _).mono ?_
  rintro e w6 ⟨rfl, hb6⟩
  replace hb6 := (hal.out _).trans (hb6.mono (hal.out _).size)
  have hT6 := hT5.out.more hb6
  have hO6 := Lib.hid ((Chg.of_below (S := fun _ => False) hb6).heap hO5.out id)
  have hR6 := Lib.hid (hR5'.out.more hb6)
  replace hb6 := Lib.hid (hb5.out.trans (hb6.mono hb5.out.size))
  have cN := name_any 2 w6 hT6
  rw [hnm] at cN
  replace cN := Lib.hid cN
  clear hnm cS hal d0 d1 d2 d3 d4 d5 d6 d7 d8 d9 d10 d11 d12 d13 hl1 hT6 hR5' hO5 hb5 hT5 hsl htk
  go_wp2_with fail
  refine cN.out.mono ?_
  rintro e w7 ⟨rfl, hb7⟩
  have hO7 := (Chg.of_below (S := fun _ => False) hb7).heap hO6.out id
  have hR7 := hR6.out.more hb7
  have cT := Lib.hid (touches_any _ _ _ _ _ rA w7 hR7 (by decide))
  replace hb7 := Lib.hid (hb6.out.trans (hb7.mono hb6.out.size))
  obtain ⟨⟨d0, d1, d2, d3, d4, d5, d6⟩, ⟨d7, d8, d9, d10, d11, d12, d13⟩, hl1⟩ := rec_cells hO7
  clear hR7 hO7 cN hb6 hR6 hO6
  go_wp2_with fail
  refine cT.out.mono ?_
  rintro e w8 ⟨u, rfl, ho8, hb8⟩
  have hI8 := isI_of_row ho8
  rw [touchA] at hI8
  have hI8' : ∀ o, IsI (w8.alloc o) u [2] := fun o => hI8.more ((Below.refl _ _).alloc (Nat.le_refl _) o)
  have hN8 : ∀ c, IsI (w8.alloc (.cells #[.int .i64 2] 3 (0, 0))) (.slice (some ⟨w8.heap.size, 0, none⟩) 1 c) [2] := fun c => ⟨_, _, rfl, fun j hj => by
    match j, hj with
    | 0, _ => exact ⟨_, _, rfl, cell_of (heap_alloc_new w8 _) rfl⟩⟩
  have cI := fun c => sameI_any u _ [2] [2] _ (hI8' _) (hN8 c) (by decide)
  rw [decide_eq_true (rfl : ([2] : List Int) = [2])] at cI
  replace hb8 := Lib.hid (hb7.out.trans (hb8.mono hb7.out.size))
  replace cI := Lib.hid cI
  clear ho8 hI8 hI8' hN8 d0 d1 d2 d3 d4 d5 d6 d7 d8 d9 d10 d11 d12 d13 hl1 hb7
  go_wp2_with fail
  refine (cI.out _).mono ?_
  rintro e w9 ⟨rfl, n, rfl⟩
  go_wp2
  go_ret
  exact ⟨rfl, below_drewN (hb8.out.alloc hb8.out.size _) _⟩
end Go.Proofs.YtikdjbcfckjccaaDoor
