/- What New of package disk makes; one disk of the call's own. No condition. -/
import Derived.Test.YtofejnhnnmnfpaaDoorDc
import Derived.Test.YtofejnhnnmnfpaaDoorRep
namespace Go.Proofs.YtofejnhnnmnfpaaDoor.Dq
set_option maxRecDepth 100000
open Go.RowKit

/-- A sector of zeros. -/
def zsec : List UInt8 := Lib.repeatL [0] 64
theorem zsec_eq : zsec = List.replicate 64 0 := by decide
theorem zsec_length : zsec.length = 64 := by decide
def dnew (n : Nat) : Dk := { safe := List.replicate n zsec, pend := [], stops := false, after := 0, dead := false }

theorem kNew_nil (n : Int) (w : World) (h : n < 1 ∨ 10000 < n) : Calls Tryd.prog 10 #[.int .i64 n] w fun e w' => e = .returned (.pointer none) ∧ w = w' := by
  by_cases h1 : n < 1
  · go_enter Tryd.func10, Tryd.ntmps10
    go_wp2
    go_ret
    exact ⟨rfl, rfl⟩
  · have h2 : 10000 < n := by omega
    have hd : decide (n < 1) = false := by simp; omega
    go_enter Tryd.func10, Tryd.ntmps10
    go_wp2
    go_ret
    exact ⟨rfl, rfl⟩

set_option maxHeartbeats 400000 in
theorem kNew (n : Nat) (w : World) (h1 : 1 ≤ n) (h2 : n ≤ 10000) : Calls Tryd.prog 10 #[.int .i64 n] w fun e w' => ∃ B rs m, e = .returned (.pointer (some ⟨B, 0, none⟩)) ∧ DAt w' B rs none m (dnew n) ∧ Below w.heap.size w w' ∧ (∀ k, DS B rs none m k → w.heap.size ≤ k) := by
  have hmm := @run_makeMap Tryd.prog
  have S1 := Lib.hid (Go.Proofs.Tryd.strings_Repeat ⟨#[0]⟩ 64 w (by omega) (by decide))
  have hd1 : decide ((n : Int) < 1) = false := by simp; omega
  have hd2 : decide ((10000 : Int) < n) = false := by simp; omega
  go_enter Tryd.func10, Tryd.ntmps10
  go_wp2_with fail
  refine S1.out.mono ?_
  rintro e w1 ⟨rfl, hb1⟩
  have e1 : (⟨(Lib.repeatL (⟨#[0]⟩ : ByteArray).data.toList 64).toArray⟩ : ByteArray) = mk zsec := rfl
  rw [e1]
  clear e1
  go_wp2_with fail
  refine (repeat_one w1.heap.size (mk zsec) n _ h1 h2 (heap_alloc_new w1 _)).mono ?_
  rintro e w2 ⟨v, rfl, hown, hb2⟩
  obtain ⟨va, vl, vc, rfl, rfl⟩ := own_form hown
  have HO := Lib.hid hown
  clear hown
  go_wp2
  have hsz := hb1.size
  have hsz2 := hb2.size
  have hw2 : w1.heap.size + 1 ≤ w2.heap.size := by simpa using hsz2
  refine bodyPost_ret (v := .pointer (some ⟨w2.heap.size + 1, 0, none⟩)) (by simp [results, Tryd.results10, go_sem]) rfl ?_
  refine ⟨w2.heap.size + 1, Value.ownBlock (.slice va vl vc), w2.heap.size, rfl, ⟨⟨by simp [dnew]; omega, ?_, by simp [dnew], by simp [dnew], by simp [dnew]⟩, _, .slice none 0 0, rfl, rfl, ?_, ?_, World.ownsRow_nil _ _ _ _, ?_⟩, ?_, ?_⟩
  · intro s hs
    rw [List.eq_of_mem_replicate hs]
    exact zsec_length
  · have := heap_alloc_new (w2.alloc (.map #[] 0)) (.cells #[.slice va vl vc, .slice none 0 0, .map (some w2.heap.size), .bool false, .int .i64 0, .bool false] 62)
    simpa [dnew] using this
  · have h := ((own_base HO.out).alloc (.map #[] 0)).alloc (.cells #[.slice va vl vc, .slice none 0 0, .map (some w2.heap.size), .bool false, .int .i64 0, .bool false] 62)
    have e1 : (dnew vl).safe.length = vl := by simp [dnew]
    have e2 : scells (dnew vl).safe = List.replicate vl (.string (mk zsec)) := by simp [scells, dnew]
    rw [e1, e2]
    exact h
  · exact (SMap.made w2).chg ((Chg.refl (fun _ => False) _).alloc _) (fun h => h)
  · exact ((hb1.trans (((Below.refl _ _).alloc hsz _).trans (hb2.mono (by simp; omega)))).alloc (by omega) _).alloc (by simp; omega) _
  · intro k hk
    rcases hk with hk | hk | hk | hk
    · omega
    · have := (HO.out.lt k hk).1
      simp at this
      omega
    · cases hk
    · omega
end Go.Proofs.YtofejnhnnmnfpaaDoor.Dq
