/- alive of the laws on cycle. No condition. -/
import Derived.Test.YtakgehcfomfmdaaCAny
namespace Go.Proofs.Ytakgehcfomfmdaa
open Go.RowKit

def pcells (E : List (Int × Int)) : List Value := E.flatMap fun p => [.int .i64 p.1, .int .i64 p.2]
theorem pcells_length (E : List (Int × Int)) : (pcells E).length = E.length * 2 := by
  induction E with
  | nil => rfl
  | cons p E ih => rw [pcells, List.flatMap_cons, List.length_append, ← pcells, ih]; simp; omega
theorem pcells_append (E F : List (Int × Int)) : pcells (E ++ F) = pcells E ++ pcells F := by simp [pcells]
theorem pcells_get : ∀ (E : List (Int × Int)) (j : Nat) (h : j < E.length), (pcells E)[j * 2]? = some (.int .i64 E[j].1) ∧ (pcells E)[j * 2 + 1]? = some (.int .i64 E[j].2)
  | p :: E, 0, _ => ⟨rfl, rfl⟩
  | p :: E, j + 1, h => by
    have h' : j < E.length := by simpa using h
    have := pcells_get E j h'
    rw [show (j + 1) * 2 = j * 2 + 1 + 1 by omega]
    exact this
def PWf (E : List (Int × Int)) : Prop := ∀ p ∈ E, (Lit.int .i64 p.1).wf = true ∧ (Lit.int .i64 p.2).wf = true
/-- A row of pairs that was just made. -/
theorem PAt.new {w : World} (E : List (Int × Int)) (hw : PWf E) (b' : Nat) (t : TypeId) (hb : b' = w.heap.size) : PAt (w.alloc (.cells (pcells E).toArray t)) (some ⟨b', 0, none⟩) E := fun j hj => by
  subst hb
  obtain ⟨h1, h2⟩ := pcells_get E j hj
  obtain ⟨w1, w2⟩ := hw E[j] (List.getElem_mem hj)
  refine ⟨w.heap.size, 0, rfl, ?_, ?_, w1, w2⟩
  · rw [Nat.zero_add]; exact cell_of (heap_alloc_new w _) (by simpa using h1)
  · rw [Nat.zero_add]; exact cell_of (heap_alloc_new w _) (by simpa using h2)
theorem IAt.new {w : World} (l : List Int) (b' : Nat) (t : TypeId) (hb : b' = w.heap.size) : IAt (w.alloc (.cells (icells l).toArray t)) (some ⟨b', 0, none⟩) l := fun j hj => by
  subst hb
  refine ⟨w.heap.size, 0, rfl, ?_⟩
  rw [Nat.zero_add]
  exact cell_of (heap_alloc_new w _) (by simp [icells, hj])
def eA : List (Int × Int) := [(1, 2), (2, 1), (3, 1)]
def eB : List (Int × Int) := [(1, 2), (2, 1)]
theorem onA : OnL eA 1 [1, 2] := by
  refine ⟨by simp, fun x => ⟨fun h => ?_, fun ⟨h, _⟩ => ?_⟩⟩
  · have h12 : Rt eA 1 2 := .one (by simp [eA])
    have h21 : Rt eA 2 1 := .one (by simp [eA])
    simp only [List.mem_cons, List.not_mem_nil, or_false] at h
    rcases h with rfl | rfl
    · exact ⟨h12.trans h21, h12.trans h21⟩
    · exact ⟨h12, h21⟩
  · refine h.closed (fun z => z ∈ [1, 2]) (fun c hc => ?_) (fun c d hc hd => ?_)
    · simp [eA] at hc; simp [hc]
    · simp [eA] at hd; simp; omega
theorem onA3 : OnL eA 3 [] := by
  refine ⟨List.Pairwise.nil, fun x => ⟨fun h => (by cases h), fun ⟨h, h'⟩ => ?_⟩⟩
  have h2 := h.trans h'
  have : (3 : Int) = 1 ∨ (3 : Int) = 2 := h2.closed (fun z => z = 1 ∨ z = 2) (fun c hc => by simp [eA] at hc; omega) (fun c d hc hd => by simp [eA] at hd; omega)
  omega
theorem onB : OnL eB 1 [1, 2] := by
  refine ⟨by simp, fun x => ⟨fun h => ?_, fun ⟨h, _⟩ => ?_⟩⟩
  · have h12 : Rt eB 1 2 := .one (by simp [eB])
    have h21 : Rt eB 2 1 := .one (by simp [eB])
    simp only [List.mem_cons, List.not_mem_nil, or_false] at h
    rcases h with rfl | rfl
    · exact ⟨h12.trans h21, h12.trans h21⟩
    · exact ⟨h12, h21⟩
  · refine h.closed (fun z => z ∈ [1, 2]) (fun c hc => ?_) (fun c d hc hd => ?_)
    · simp [eB] at hc; simp [hc]
    · simp [eB] at hd; simp; omega
theorem cyc5 : ∃ x, Rt [((5 : Int), (5 : Int))] x x := ⟨5, .one (by simp)⟩
theorem cyc12 : ¬ ∃ x, Rt [((1 : Int), (2 : Int))] x x := by
  rintro ⟨x, h⟩
  have h1 : x = 2 := h.closed (fun z => z = 2) (fun c hc => by simp at hc; omega) (fun c d _ hd => by simp at hd; omega)
  obtain ⟨c, hc, _⟩ := h.head
  simp at hc
  omega
theorem pwfA : PWf eA := by intro p hp; simp [eA] at hp; rcases hp with rfl | rfl | rfl <;> exact ⟨by decide, by decide⟩
theorem pwfB : PWf eB := by intro p hp; simp [eB] at hp; rcases hp with rfl | rfl <;> exact ⟨by decide, by decide⟩
theorem pwf5 : PWf [((5 : Int), (5 : Int))] := by intro p hp; simp at hp; rcases hp with rfl; exact ⟨by decide, by decide⟩
theorem pwf12 : PWf [((1 : Int), (2 : Int))] := by intro p hp; simp at hp; rcases hp with rfl; exact ⟨by decide, by decide⟩
set_option maxRecDepth 100000 in
set_option maxHeartbeats 1600000 in
theorem alive_true (w : World) : Calls Try.prog 10 #[] w fun e w' => e = .returned (.bool true) ∧ Below w.heap.size w w' := by
  go_enter Try.func10, Try.ntmps10
  go_wp2_with fail
  refine (victim_any (some ⟨w.heap.size, 0, none⟩) 3 eA 1 _ (PAt.new eA pwfA _ _ rfl) (by simp [eA]) (by decide)).mono ?_
  rintro e w1 ⟨l, hL, rfl, h1⟩
  obtain rfl := hL.uniq onA
  have b1 := Lib.hid (((Below.refl w.heap.size w).alloc (Nat.le_refl _) _).trans (h1.mono (by simp)))
  clear h1 hL
  rw [show vicV [1, 2] = .tuple #[.int .i64 2, .bool true] from rfl]
  go_wp2_with fail
  refine (victim_any (some ⟨w1.heap.size, 0, none⟩) 3 eA 3 _ (PAt.new eA pwfA _ _ rfl) (by simp [eA]) (by decide)).mono ?_
  rintro e w2 ⟨l, hL, rfl, h2⟩
  obtain rfl := hL.uniq onA3
  have b2 := Lib.hid ((b1.out.alloc b1.out.size _).trans (h2.mono (by have := b1.out.size; simp; omega)))
  clear h2 hL b1
  rw [show vicV [] = .tuple #[.int .i64 0, .bool false] from rfl]
  go_wp2_with fail
  refine (on_any (some ⟨w2.heap.size, 0, none⟩) 2 eB 1 _ (PAt.new eB pwfB _ _ rfl) (by simp [eB]) (by decide)).mono ?_
  rintro e w3 ⟨v, l, rfl, hL, ho, _, _, h3⟩
  obtain rfl := hL.uniq onB
  obtain ⟨a3, c3, rfl, i3⟩ := IAt.own ho
  have b3 := Lib.hid ((b2.out.alloc b2.out.size _).trans (h3.mono (by have := b2.out.size; simp; omega)))
  clear h3 hL b2 ho
  go_wp2_with fail
  refine (same_yes a3 (some ⟨w3.heap.size, 0, none⟩) c3 2 [1, 2] _ (i3.more ((Below.refl _ _).alloc (Nat.le_refl _) _)) (IAt.new [1, 2] _ _ rfl) (by simp)).mono ?_
  rintro e w4 ⟨rfl, h4⟩
  have b4 := Lib.hid ((b3.out.alloc b3.out.size _).trans (h4.mono (by have := b3.out.size; simp; omega)))
  clear h4 b3 i3
  go_wp2_with fail
  refine (any_any (some ⟨w4.heap.size, 0, none⟩) 1 [(5, 5)] _ (PAt.new _ pwf5 _ _ rfl) (by simp)).mono ?_
  rintro e w5 ⟨bb, rfl, hbb, h5⟩
  obtain rfl := hbb.2 cyc5
  have b5 := Lib.hid ((b4.out.alloc b4.out.size _).trans (h5.mono (by have := b4.out.size; simp; omega)))
  clear h5 b4 hbb
  go_wp2_with fail
  refine (any_any (some ⟨w5.heap.size, 0, none⟩) 1 [(1, 2)] _ (PAt.new _ pwf12 _ _ rfl) (by simp)).mono ?_
  rintro e w6 ⟨bb, rfl, hbb, h6⟩
  obtain rfl : bb = false := by cases bb; rfl; exact absurd (hbb.1 rfl) cyc12
  have b6 := Lib.hid ((b5.out.alloc b5.out.size _).trans (h6.mono (by have := b5.out.size; simp; omega)))
  clear h6 b5 hbb
  go_wp2
  go_ret
  exact ⟨rfl, b6.out⟩
end Go.Proofs.Ytakgehcfomfmdaa
