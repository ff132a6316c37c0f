/- 'alive' of the disk's statements is true. No condition. -/
import Derived.Test.YtnphpnbliigfbaaDi
namespace Go.Proofs.Ytnphpnbliigfbaa
open Go.RowKit

theorem BAt.new (w : World) (ks : List Bool) (a : Nat) (cs : Array Value) (t : TypeId) (h : a = w.heap.size) (hc : cs = (ks.map Value.bool).toArray) : BAt (w.alloc (.cells cs t)) (some ⟨a, 0, none⟩) ks := by
  intro j hj
  subst h
  subst hc
  refine ⟨w.heap.size, 0, rfl, ?_⟩
  exact cell_of (heap_alloc_new w _) (by simp [hj])

def fa : List UInt8 := fill [97]
def fb : List UInt8 := fill [98]
def fc : List UInt8 := fill [99]
def da0 : Dk := dnew 3
def da1 : Dk := { safe := [zsec, zsec, zsec], pend := [(1, fa)], stops := false, after := 0, dead := false }
def da2 : Dk := { safe := [zsec, fa, zsec], pend := [], stops := false, after := 0, dead := false }
def da3 : Dk := { safe := [zsec, fa, zsec], pend := [(1, fb)], stops := false, after := 0, dead := false }
def da4 : Dk := { safe := [zsec, fa, zsec], pend := [(1, fb), (2, fc)], stops := false, after := 0, dead := false }
def da5 : Dk := { safe := [zsec, fa, fc], pend := [], stops := false, after := 0, dead := false }
theorem qa1 : dwrite (dnew 3) 1 fa = (da1, 0) := by
  have h : fa.length = 64 := fill_length _
  simp [dwrite, dnew, isIn, h, da1, List.replicate]
theorem qa2 : dsync da1 = (da2, 0) := rfl
theorem qa3 : dwrite da2 1 fb = (da3, 0) := by
  have h : fb.length = 64 := fill_length _
  simp [dwrite, isIn, h, da2, da3]
theorem qa4 : dwrite da3 2 fc = (da4, 0) := by
  have h : fc.length = 64 := fill_length _
  simp [dwrite, isIn, h, da3, da4]
theorem qa5 : dcrash da4 [false, true] = (da5, 1) := rfl
theorem qa6 : dread da5 1 = (fa, 0) := rfl
theorem qa7 : dread da5 2 = (fc, 0) := rfl

set_option maxHeartbeats 800000 in
theorem alive_true (w : World) : Calls Try.prog 12 #[] w fun e w' => e = .returned (.bool true) ∧ Below w.heap.size w w' := by
  go_enter Try.func12, Try.ntmps12
  go_wp2_with fail
  refine (iNew 3 (by omega) (by omega) (Below.refl w.heap.size w) (Nat.le_refl _)).mono ?_
  rintro e w1 ⟨B, rfl, h1⟩
  replace h1 := Lib.hid h1
  go_wp2_with fail
  refine (fill_any [97] w1).mono ?_
  rintro e w2 ⟨rfl, b2⟩
  have h2 := Lib.hid (h1.out.more b2)
  clear b2 h1
  go_wp2_with fail
  refine (iWrite 1 fa qa1 (by simp [dnew]) h2.out).mono ?_
  rintro e w3 ⟨rfl, h3⟩
  replace h3 := Lib.hid h3
  go_wp2_with fail
  refine (iSync qa2 h3.out).mono ?_
  rintro e w4 ⟨rfl, h4⟩
  replace h4 := Lib.hid h4
  go_wp2_with fail
  refine (fill_any [98] w4).mono ?_
  rintro e w5 ⟨rfl, b5⟩
  have h5 := Lib.hid (h4.out.more b5)
  clear b5 h4
  go_wp2_with fail
  refine (iWrite 1 fb qa3 (by simp [da2]) h5.out).mono ?_
  rintro e w6 ⟨rfl, h6⟩
  replace h6 := Lib.hid h6
  go_wp2_with fail
  refine (fill_any [99] w6).mono ?_
  rintro e w7 ⟨rfl, b7⟩
  have h7 := Lib.hid (h6.out.more b7)
  clear b7 h6
  go_wp2_with fail
  refine (iWrite 2 fc qa4 (by simp [da3]) h7.out).mono ?_
  rintro e w8 ⟨rfl, h8⟩
  replace h8 := Lib.hid h8
  go_wp2_with fail
  refine (iPending h8.out).mono ?_
  rintro e w9 ⟨rfl, rfl⟩
  have e1 : ((da4.pend.length : Nat) : Int) = 2 := rfl
  rw [e1]
  clear e1
  go_wp2_with fail
  have h9 := Lib.hid (h8.out.more' ((Chg.refl (fun _ => False) w8).alloc (.cells #[.bool false, .bool true] 4)))
  refine (iCrash _ 2 [false, true] qa5 (BAt.new w8 [false, true] _ _ _ rfl rfl) (by simp) h9.out).mono ?_
  rintro e w9 ⟨rfl, h10⟩
  replace h10 := Lib.hid h10
  go_wp2_with fail
  refine (iRead 1 qa6 h10.out).mono ?_
  rintro e w10 ⟨rfl, rfl⟩
  go_wp2_with fail
  refine (iRead 2 qa7 h10.out).mono ?_
  rintro e w10 ⟨rfl, rfl⟩
  go_wp2_with fail
  refine (fill_any [97] _).mono ?_
  rintro e w11 ⟨rfl, b11⟩
  rw [show mk (fill [97]) = mk fa from rfl]
  go_wp2_with fail
  refine (fill_any [99] _).mono ?_
  rintro e w12 ⟨rfl, b12⟩
  rw [show mk (fill [99]) = mk fc from rfl]
  go_wp2
  go_ret
  exact ⟨rfl, h10.out.was.1.trans ((b11.mono h10.out.was.2).trans (b12.mono (Nat.le_trans h10.out.was.2 b11.size)))⟩
end Go.Proofs.Ytnphpnbliigfbaa
