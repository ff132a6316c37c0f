/- zeros, Empty, Name of package page. No condition but the table of spaces. -/
import Derived.Test.YtcmbofoddfhnjaaDoorPLaw
import Derived.Test.YtcmbofoddfhnjaaDoorProg
import Derived.Test.YtcmbofoddfhnjaaDoorShelf
namespace Go.Proofs.YtcmbofoddfhnjaaDoor
open Go.RowKit
attribute [local go_sem] mk_size

/-- The table of spaces is what it is. -/
def Tab (w : World) : Prop := Lib.TabIs Tryd.prog w "strings.asciiSpace" .u8 Lib.asciiSpaceTab
theorem Tab.more {w w' : World} (h : Tab w) (hb : Below w.heap.size w w') : Tab w' := by
  unfold Tab Lib.TabIs World.var? at *
  cases hg : Tryd.prog.globalNamed "strings.asciiSpace" with
  | none => rw [hg] at h; cases h
  | some g =>
    rw [hg] at h
    simp only [Option.bind_some] at h ⊢
    have hlt : g < w.heap.size := by
      rcases Nat.lt_or_ge g w.heap.size with h' | h'
      · exact h'
      · rw [Array.getElem?_eq_none h'] at h; cases h
    rw [hb.block g hlt]
    exact h
theorem rep_zero : ∀ n, Lib.repeatL [(0 : UInt8)] n = List.replicate n 0
  | 0 => rfl
  | n + 1 => by rw [List.replicate_succ, ← rep_zero n]; rfl
theorem repeat_any (n : Nat) (x : Int) (w : World) (hx : x = n) (h : n ≤ 1000000) : Calls Tryd.prog 21 #[.string ⟨#[0]⟩, .int .i64 x] w fun e w' => e = .returned (.string (mk (zs n))) ∧ Below w.heap.size w w' := by
  subst hx
  refine (Go.Proofs.Tryd.strings_Repeat (mk [0]) n w (by omega) (by rw [mk_size]; simp; omega)).mono fun e w' ⟨he, hb⟩ => ⟨?_, hb⟩
  rw [he, mk_list, rep_zero]
  rfl
theorem zeros_any (n : Nat) (x : Int) (w : World) (hx : x = n) (h : n ≤ 1000000) : Calls Tryd.prog 17 #[.int .i64 x] w fun e w' => e = .returned (.string (mk (zs n))) ∧ Below w.heap.size w w' := by
  subst hx
  go_enter Tryd.func17, Tryd.ntmps17
  go_wp2_with fail
  refine (repeat_any n n _ rfl h).mono ?_
  rintro e w1 ⟨rfl, hb⟩
  go_wp2
  go_ret
  exact ⟨rfl, hb⟩
def kinds : List (List UInt8) := [[102, 114, 101, 101], [100, 105, 114], [109, 97, 112], [98, 117, 99, 107, 101, 116], [111, 118, 101, 114, 102, 108, 111, 119], [98, 108, 111, 98]]
def kindsText : List UInt8 := [102, 114, 101, 101, 32, 100, 105, 114, 32, 109, 97, 112, 32, 98, 117, 99, 107, 101, 116, 32, 111, 118, 101, 114, 102, 108, 111, 119, 32, 98, 108, 111, 98]
def nameOf (k : Int) : List UInt8 := if 0 ≤ k then kinds.getD k.toNat [] else []
theorem fields_any (w : World) (hT : Tab w) : Calls Tryd.prog 20 #[.string (mk kindsText)] w fun e w' => e = .returned (.slice (some ⟨w.heap.size, 0, none⟩) 6 6) ∧ w' = w.alloc (.cells ((kinds.map fun l => Value.string (mk l)).toArray) 9) := by
  have hf : Lib.fields (mk kindsText).data.toList = kinds := by rw [mk_list]; decide
  have hall : ∀ b ∈ kindsText, b.toNat < 128 := by decide
  have h := Go.Proofs.Tryd.strings_Fields (mk kindsText) w (by rw [mk_size]; decide) (by rw [mk_list]; intro j b hj; exact hall b (List.mem_of_getElem? hj)) hT
  rw [hf] at h
  exact h

theorem kinds_get (k : Nat) (h : k < 6) : ((kinds.map fun l => Value.string (mk l)).toArray)[k]? = some (.string (mk (kinds.getD k []))) := by
  rcases (show k = 0 ∨ k = 1 ∨ k = 2 ∨ k = 3 ∨ k = 4 ∨ k = 5 by omega) with rfl | rfl | rfl | rfl | rfl | rfl <;> rfl
theorem kinds_len : kinds.length = 6 := rfl
set_option maxHeartbeats 800000 in
theorem name_any (k : Int) (w : World) (hT : Tab w) : Calls Tryd.prog 16 #[.int .i64 k] w fun e w' => e = .returned (.string (mk (nameOf k))) ∧ Below w.heap.size w w' := by
  by_cases c1 : k < 0
  · have hn : nameOf k = [] := by rw [nameOf, if_neg (by omega)]
    rw [hn]
    go_enter Tryd.func16, Tryd.ntmps16
    go_wp2_with fail
    refine (fields_any _ hT).mono ?_
    rintro e w1 ⟨rfl, rfl⟩
    go_wp2
    go_ret
    exact ⟨rfl, (Below.refl _ _).alloc (Nat.le_refl _) _⟩
  obtain ⟨n, rfl⟩ := Int.eq_ofNat_of_zero_le (show 0 ≤ k by omega)
  by_cases c2 : 6 ≤ (n : Int)
  · have hn : nameOf n = [] := by
      rw [nameOf, if_pos (by omega), Int.toNat_natCast, List.getD, List.getElem?_eq_none (by rw [kinds_len]; omega)]
      rfl
    rw [hn]
    go_enter Tryd.func16, Tryd.ntmps16
    go_wp2_with fail
    refine (fields_any _ hT).mono ?_
    rintro e w1 ⟨rfl, rfl⟩
    go_wp2
    go_ret
    exact ⟨rfl, (Below.refl _ _).alloc (Nat.le_refl _) _⟩
  · have hn : nameOf n = kinds.getD n [] := by rw [nameOf, if_pos (by omega), Int.toNat_natCast]
    rw [hn]
    obtain ⟨nm, hnm⟩ : ∃ nm, nm = kinds.getD n [] := ⟨_, rfl⟩
    have hg := kinds_get n (by omega)
    rw [← hnm] at hg ⊢
    obtain ⟨cs, hcs⟩ : ∃ cs, cs = (kinds.map fun l => Value.string (mk l)).toArray := ⟨_, rfl⟩
    have hF := fields_any w hT
    rw [← hcs] at hg hF
    have hc : (w.alloc (.cells cs 9)).cell? ⟨w.heap.size, n, none⟩ = some (.string (mk nm)) := cell_of (heap_alloc_new w _) hg
    replace hF := Lib.hid hF
    clear hg hnm hcs
    go_enter Tryd.func16, Tryd.ntmps16
    go_wp2_with fail
    refine hF.out.mono ?_
    rintro e w1 ⟨rfl, rfl⟩
    go_wp2
    go_ret
    exact ⟨rfl, (Below.refl _ _).alloc (Nat.le_refl _) _⟩
end Go.Proofs.YtcmbofoddfhnjaaDoor
