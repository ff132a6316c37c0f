/- The first calls whose answers the document fixes. No condition. -/
import Derived.Test.YtlbeaoglkhfdcaaOLaw
namespace Go.Proofs.Ytlbeaoglkhfdcaa
open Go.RowKit Go.Maps Go.WideShapes
/-- The two pages. -/
def alP : List ByteArray := [⟨#[122, 101, 114, 111]⟩, ⟨#[111, 110, 101]⟩]
theorem alP_le : alP.length ≤ 1000000 := by simp [alP]
abbrev alD := dvRec alP
def alS1 : PS := (pget alD 1 [] PS.new 1).2.1
def alT1 : St := [(114, 1, ⟨#[]⟩)]
def alS2 : PS := (pset alD 1 alT1 alS1 1 ⟨#[110, 101, 119]⟩ 7).2.1
def alS3 : PS := (pset alD 1 alT1 alS2 1 ⟨#[110, 101, 119, 101, 114]⟩ 9).2.1
def alT4 : St := [(114, 1, ⟨#[]⟩), (114, 0, ⟨#[]⟩), (108, 9, ⟨#[]⟩), (119, 1, ⟨#[110, 101, 119, 101, 114]⟩)]
def alS4 : PS := (pget alD 1 alT1 alS3 0).2.1
theorem al1 : pget alD 1 [] PS.new 1 = (alT1, alS1, ⟨#[111, 110, 101]⟩, 0) := by rfl
theorem al2 : pset alD 1 alT1 alS1 1 ⟨#[110, 101, 119]⟩ 7 = (alT1, alS2, 0) := by rfl
theorem al3 : pset alD 1 alT1 alS2 1 ⟨#[110, 101, 119, 101, 114]⟩ 9 = (alT1, alS3, 0) := by rfl
theorem al4 : pget alD 1 alT1 alS3 0 = (alT4, alS4, ⟨#[122, 101, 114, 111]⟩, 0) := by rfl
theorem al5 : pclean alS3 1 = false := by rfl
theorem al6 : pdirty alS3 = [(1, 7)] := by rfl
theorem al7 : pclean alS4 1 = true := by rfl
theorem al8 : (alS1.ck = 1 ∧ alS2.ck = 2 ∧ alS3.ck = 3) ∧ alS1.ks = [1] ∧ alS2.ks = [1] ∧ alS3.ks = [1] := ⟨⟨rfl, rfl, rfl⟩, rfl, rfl, rfl⟩
/-- A rec that has written nothing down yet. -/
theorem rec_start {w1 : World} {pages : List ByteArray} {gb go gc : Nat} (hpg : ∀ j (h : j < pages.length), w1.cell? ⟨gb, go + j, none⟩ = some (.string pages[j])) (gl : gb < w1.heap.size) :
    RAt pages w1.heap.size gb go gc (fun k => k = w1.heap.size ∨ k = gb) (w1.alloc (.cells #[.slice none 0 0, .slice (some ⟨gb, go, none⟩) pages.length gc, .int .i64 0] 45)) [] := by
  have hb : Below w1.heap.size w1 (w1.alloc (.cells #[.slice none 0 0, .slice (some ⟨gb, go, none⟩) pages.length gc, .int .i64 0] 45)) := (Below.refl _ _).alloc (Nat.le_refl _) _
  refine ⟨⟨.slice none 0 0, heap_alloc_new w1 _, World.ownsRow_nil _ _ _ _, fun k hk => by simp [Value.ownBlock] at hk⟩, fun j hj => cell_more hb (hpg j hj), by have := hb.size; omega, ⟨.inl rfl, .inr rfl, by omega, fun k hk => ?_⟩, by simp⟩
  simp
  omega
set_option maxHeartbeats 1600000 in
theorem alive_true (w : World) : Calls Try.prog 8 #[] w fun e w' => e = .returned (.bool true) ∧ Below w.heap.size w w' := by
  have hmf : ∀ (fn : Fn) (first cap : Array Value) (w : World), (Instr.makeFunc fn first cap).run Try.prog w = .ok (.func fn first cap) w := fun _ _ _ _ => rfl
  have hR := rec_start (w1 := w.alloc (.cells #[.string ⟨#[122, 101, 114, 111]⟩, .string ⟨#[111, 110, 101]⟩] 9)) (pages := alP) (gb := w.heap.size) (go := 0) (gc := 2) (by
    intro j hj
    match j, hj with
    | 0, _ => exact cell_of (heap_alloc_new w _) rfl
    | 1, _ => exact cell_of (heap_alloc_new w _) rfl
    | n + 2, hj => exact absurd (show n + 2 < 2 from hj) (by omega)) (by simp)
  rw [show (w.alloc (.cells #[.string ⟨#[122, 101, 114, 111]⟩, .string ⟨#[111, 110, 101]⟩] 9)).heap.size = w.heap.size + 1 by simp] at hR
  have hb0 : Below w.heap.size w ((w.alloc (.cells #[.string ⟨#[122, 101, 114, 111]⟩, .string ⟨#[111, 110, 101]⟩] 9)).alloc (.cells #[.slice none 0 0, .slice (some ⟨w.heap.size, 0, none⟩) 2 2, .int .i64 0] 45)) := ((Below.refl _ _).alloc (Nat.le_refl _) _).alloc (by simp) _
  have hN := lNew (E := devRec alP alP_le (w.heap.size + 1) w.heap.size 0 2) (K := fun _ => False) (B := w.heap.size) (w0 := w) (cap := 1) (by omega) (by omega) hR (fun k hk => by rcases hk with rfl | rfl <;> exact ⟨by omega, id⟩) hb0 hb0.size (fun _ h => h.elim)
  obtain ⟨⟨k1, k2, k3⟩, l1, l2, l3⟩ := al8
  replace hR := Lib.hid hR
  replace hb0 := Lib.hid hb0
  replace hN := Lib.hid hN
  go_enter Try.func8, Try.ntmps8
  go_wp2_with fail
  refine hN.out.mono ?_
  rintro e w1 ⟨pb, rfl, h1, _⟩
  have c1 := lGet 1 al1 h1 (by decide) (by simp [PS.new]) (by simp [PS.new]) (by omega) (by show 3 ≤ 1000000 - 0; omega)
  clear h1
  replace c1 := Lib.hid c1
  go_wp2_with fail
  refine c1.out.mono ?_
  rintro e w2 ⟨rfl, h2, _⟩
  have c2 := lSet 1 _ 7 al2 h2 (by decide) (by rw [k1]; omega) (by rw [l1]; simp) (by omega) (by show 2 ≤ 1000000 - 1; omega)
  clear h2 c1
  replace c2 := Lib.hid c2
  go_wp2_with fail
  refine c2.out.mono ?_
  rintro e w3 ⟨rfl, h3, _⟩
  have c3 := lSet 1 _ 9 al3 h3 (by decide) (by rw [k2]; omega) (by rw [l2]; simp) (by omega) (by show 2 ≤ 1000000 - 1; omega)
  clear h3 c2
  replace c3 := Lib.hid c3
  go_wp2_with fail
  refine c3.out.mono ?_
  rintro e w4 ⟨rfl, h4, _⟩
  have c4 := lClean 1 al5 h4 (by decide)
  replace c4 := Lib.hid c4
  clear c3
  go_wp2_with fail
  refine c4.out.mono ?_
  rintro e w5 ⟨rfl, rfl⟩
  have c5 := lDirty al6 h4
  clear h4 c4
  replace c5 := Lib.hid c5
  go_wp2_with fail
  refine c5.out.mono ?_
  rintro e w6 ⟨a6, n6, rfl, hd6, h6, _⟩
  obtain ⟨b6, o6, rfl, d1, d2⟩ := hd6 0 (by simp)
  simp only [Nat.zero_mul, Nat.add_zero, List.getElem_cons_zero] at d1 d2
  have c6 := lGet 0 al4 h6 (by decide) (by rw [k3]; omega) (by rw [l3]; simp) (by omega) (by show 3 ≤ 1000000 - 1; omega)
  clear h6 c5 hd6
  replace c6 := Lib.hid c6
  go_wp2_with fail
  refine c6.out.mono ?_
  rintro e w7 ⟨rfl, h7, _⟩
  obtain ⟨a7, n7, s0, hst, hrl⟩ := h7.steps
  obtain ⟨b7, o7, rfl, t0, t1, t2⟩ := hst 2 (by decide)
  obtain ⟨b8, o8, e8, u0, u1, u2⟩ := hst 3 (by decide)
  cases e8
  have hl4 : alT4.length = 4 := rfl
  rw [hl4] at s0
  have e2 : alT4[2] = (108, 9, ⟨#[]⟩) := rfl
  have e3 : alT4[3] = (119, 1, ⟨#[110, 101, 119, 101, 114]⟩) := rfl
  rw [e2] at t0 t1 t2
  rw [e3] at u0 u1 u2
  simp only [Nat.reduceMul] at t0 t1 t2 u0 u1 u2
  have hbl := World.block_lt_of_cell? w7 _ t0
  have c7 := lClean 1 al7 h7 (by decide)
  have hw := Lib.hid h7.was.1
  replace c7 := Lib.hid c7
  clear h7 c6 hst hl4 e2 e3
  go_wp2_with fail
  refine c7.out.mono ?_
  rintro e w8 ⟨rfl, rfl⟩
  clear c7
  go_wp2
  go_ret
  exact ⟨rfl, hw.out⟩
end Go.Proofs.Ytlbeaoglkhfdcaa
