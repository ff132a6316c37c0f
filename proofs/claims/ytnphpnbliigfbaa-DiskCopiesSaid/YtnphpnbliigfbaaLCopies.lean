/- The walk of the law DiskCopies. No condition. -/
import Derived.Test.YtnphpnbliigfbaaDd
import Derived.Test.YtnphpnbliigfbaaLSyncs
namespace Go.Proofs.Ytnphpnbliigfbaa
open Go.RowKit

def dq (S : List (List UInt8)) (p : List (Nat × List UInt8)) : Dk := { safe := S, pend := p, stops := false, after := 0, dead := false }
theorem c_write (a : List UInt8) (r : List (List UInt8)) (p : List (Nat × List UInt8)) (s : List UInt8) (hs : s.length = 64) : dwrite (dq (a :: r) p) 0 s = (dq (a :: r) (p ++ [(0, s)]), 0) := by
  have h1 : isIn (dq (a :: r) p) 0 = true := by simp [isIn, dq]
  rw [dwrite, h1, if_neg (by simp [dq]), if_neg (by simp), if_neg (by simp [hs]), if_neg (by simp [dq])]
  rfl
theorem c_read (a : List UInt8) (r : List (List UInt8)) : dread (dq (a :: r) []) 0 = (a, 0) := by
  have h1 : isIn (dq (a :: r) []) 0 = true := by simp [isIn, dq]
  rw [dread, h1, if_neg (by simp [dq]), if_pos rfl]
  rfl
theorem c_read1 (a : List UInt8) (r : List (List UInt8)) (s : List UInt8) : dread (dq (a :: r) [(0, s)]) 0 = (s, 0) := by
  have h1 : isIn (dq (a :: r) [(0, s)]) 0 = true := by simp [isIn, dq]
  rw [dread, h1, if_neg (by simp [dq]), if_pos rfl]
  rfl

set_option maxRecDepth 10000 in
set_option maxHeartbeats 1600000 in
theorem diskCopies_walk (a b : ByteArray) (sync : Bool) (w : World) (w0 : a.size ≤ 140737488351232) (w1 : b.size ≤ 140737488351232) :
    Calls Try.prog 10 #[.string a, .string b, .bool sync] w fun e w' => e = .returned (.bool true) ∧ Below w.heap.size w w' := by
  by_cases g1 : 60 < (a.size : Int)
  · go_enter Try.func10, Try.ntmps10
    go_wp2_with (go_at_call 12; refine (alive_true _).mono ?_; rintro e w1 ⟨rfl, h⟩)
    go_ret
    exact ⟨rfl, h⟩
  by_cases g2 : 60 < (b.size : Int)
  · go_enter Try.func10, Try.ntmps10
    go_wp2_with (go_at_call 12; refine (alive_true _).mono ?_; rintro e w1 ⟨rfl, h⟩)
    go_ret
    exact ⟨rfl, h⟩
  have la : (fill a.data.toList).length = 64 := fill_length _
  have lb : (fill b.data.toList).length = 64 := fill_length _
  obtain ⟨fa, hfa⟩ : ∃ f, f = fill a.data.toList := ⟨_, rfl⟩
  obtain ⟨fb, hfb⟩ : ∃ f, f = fill b.data.toList := ⟨_, rfl⟩
  rw [← hfa] at la
  rw [← hfb] at lb
  have FA := fun w => fill_str a w
  have FB := fun w => fill_str b w
  rw [← hfa] at FA
  rw [← hfb] at FB
  replace FA := Lib.hid FA
  replace FB := Lib.hid FB
  clear hfa hfb
  cases sync
  · go_enter Try.func10, Try.ntmps10
    go_wp2_with (go_at_call 12; refine (alive_true _).mono ?_; rintro e w1 ⟨rfl, h⟩)
    refine (iNew 3 (by omega) (by omega) h h.size).mono ?_
    rintro e w2 ⟨B, rfl, h2⟩
    replace h2 : Hid (DIn w.heap.size w w2 B (dq [zsec, zsec, zsec] [])) := Lib.hid h2
    clear h
    go_wp2_with fail
    refine (FA.out _).mono ?_
    rintro e w3 ⟨rfl, b3⟩
    have h3 := Lib.hid (h2.out.more b3)
    clear b3 h2
    go_wp2_with fail
    refine (iWrite 0 fa (c_write zsec [zsec, zsec] [] fa la) (by simp [dq]) h3.out).mono ?_
    rintro e w4 ⟨rfl, h4⟩
    replace h4 : Hid (DIn w.heap.size w w4 B (dq [zsec, zsec, zsec] [(0, fa)])) := Lib.hid h4
    clear h3
    go_wp2_with fail
    refine (dCopy h4.out).mono ?_
    rintro e w5 ⟨B2, rfl, h5⟩
    replace h5 := Lib.hid h5
    clear h4
    go_wp2_with fail
    refine (iPending h5.out.swap.fst).mono ?_
    rintro e w6 ⟨rfl, rfl⟩
    go_wp2_with fail
    refine (iPending h5.out.fst).mono ?_
    rintro e w6 ⟨rfl, rfl⟩
    rw [show (((dq [zsec, zsec, zsec] [(0, fa)]).pend.length : Nat) : Int) = 1 from rfl]
    go_wp2_with fail
    refine (FB.out _).mono ?_
    rintro e w6 ⟨rfl, b6⟩
    have h6 := Lib.hid (h5.out.more b6)
    clear b6 h5
    go_wp2_with fail
    refine (dWrite 0 fb (c_write zsec [zsec, zsec] [(0, fa)] fb lb) (by simp [dq]) h6.out).mono ?_
    rintro e w7 ⟨rfl, h7⟩
    replace h7 := Lib.hid h7
    clear h6
    go_wp2_with fail
    refine (dSync (d' := dq [fb, zsec, zsec] []) (x := 0) rfl h7.out).mono ?_
    rintro e w8 ⟨rfl, h8⟩
    replace h8 := Lib.hid h8
    clear h7
    go_wp2_with fail
    refine (iRead 0 (c_read1 zsec [zsec, zsec] fa) h8.out.swap.fst).mono ?_
    rintro e w9 ⟨rfl, rfl⟩
    go_wp2_with fail
    refine (dCrash (d' := dq [zsec, zsec, zsec] []) (n := 0) rfl h8.out.swap).mono ?_
    rintro e w9 ⟨rfl, h9⟩
    replace h9 := Lib.hid h9
    clear h8
    go_wp2_with fail
    refine (iRead 0 (c_read zsec [zsec, zsec]) h9.out.fst).mono ?_
    rintro e w10 ⟨rfl, rfl⟩
    go_wp2_with fail
    refine (iRead 0 (c_read fb [zsec, zsec]) h9.out.swap.fst).mono ?_
    rintro e w10 ⟨rfl, rfl⟩
    go_wp2_with fail
    refine (fill_any [] _).mono ?_
    rintro e w10 ⟨rfl, b10⟩
    rw [fill_nil]
    have h10 := Lib.hid (h9.out.more b10)
    clear b10 h9
    go_wp2_with fail
    refine (FA.out _).mono ?_
    rintro e w11 ⟨rfl, b11⟩
    have h11 := Lib.hid (h10.out.more b11)
    clear b11 h10
    go_wp2_with fail
    refine (FB.out _).mono ?_
    rintro e w12 ⟨rfl, b12⟩
    have h12 := Lib.hid (h11.out.more b12)
    clear b12 h11
    go_wp2_with fail
    refine (iSectors h12.out.fst).mono ?_
    rintro e w13 ⟨rfl, rfl⟩
    rw [show (((dq [zsec, zsec, zsec] []).safe.length : Nat) : Int) = 3 from rfl]
    go_wp2
    go_ret
    exact ⟨rfl, h12.out.fst.was.1⟩
  · go_enter Try.func10, Try.ntmps10
    go_wp2_with (go_at_call 12; refine (alive_true _).mono ?_; rintro e w1 ⟨rfl, h⟩)
    refine (iNew 3 (by omega) (by omega) h h.size).mono ?_
    rintro e w2 ⟨B, rfl, h2⟩
    replace h2 : Hid (DIn w.heap.size w w2 B (dq [zsec, zsec, zsec] [])) := Lib.hid h2
    clear h
    go_wp2_with fail
    refine (FA.out _).mono ?_
    rintro e w3 ⟨rfl, b3⟩
    have h3 := Lib.hid (h2.out.more b3)
    clear b3 h2
    go_wp2_with fail
    refine (iWrite 0 fa (c_write zsec [zsec, zsec] [] fa la) (by simp [dq]) h3.out).mono ?_
    rintro e w4 ⟨rfl, h4⟩
    replace h4 : Hid (DIn w.heap.size w w4 B (dq [zsec, zsec, zsec] [(0, fa)])) := Lib.hid h4
    clear h3
    go_wp2_with fail
    refine (iSync (d' := dq [fa, zsec, zsec] []) (x := 0) rfl h4.out).mono ?_
    rintro e w4 ⟨rfl, h4'⟩
    replace h4 := Lib.hid h4'
    clear h4'
    go_wp2_with fail
    refine (dCopy h4.out).mono ?_
    rintro e w5 ⟨B2, rfl, h5⟩
    replace h5 := Lib.hid h5
    clear h4
    go_wp2_with fail
    refine (iPending h5.out.swap.fst).mono ?_
    rintro e w6 ⟨rfl, rfl⟩
    go_wp2_with fail
    refine (iPending h5.out.fst).mono ?_
    rintro e w6 ⟨rfl, rfl⟩
    rw [show (((dq [fa, zsec, zsec] []).pend.length : Nat) : Int) = 0 from rfl]
    go_wp2_with fail
    refine (FB.out _).mono ?_
    rintro e w6 ⟨rfl, b6⟩
    have h6 := Lib.hid (h5.out.more b6)
    clear b6 h5
    go_wp2_with fail
    refine (dWrite 0 fb (c_write fa [zsec, zsec] [] fb lb) (by simp [dq]) h6.out).mono ?_
    rintro e w7 ⟨rfl, h7⟩
    replace h7 := Lib.hid h7
    clear h6
    go_wp2_with fail
    refine (dSync (d' := dq [fb, zsec, zsec] []) (x := 0) rfl h7.out).mono ?_
    rintro e w8 ⟨rfl, h8⟩
    replace h8 := Lib.hid h8
    clear h7
    go_wp2_with fail
    refine (iRead 0 (c_read fa [zsec, zsec]) h8.out.swap.fst).mono ?_
    rintro e w9 ⟨rfl, rfl⟩
    go_wp2_with fail
    refine (dCrash (d' := dq [fa, zsec, zsec] []) (n := 0) rfl h8.out.swap).mono ?_
    rintro e w9 ⟨rfl, h9⟩
    replace h9 := Lib.hid h9
    clear h8
    go_wp2_with fail
    refine (iRead 0 (c_read fa [zsec, zsec]) h9.out.fst).mono ?_
    rintro e w10 ⟨rfl, rfl⟩
    go_wp2_with fail
    refine (iRead 0 (c_read fb [zsec, zsec]) h9.out.swap.fst).mono ?_
    rintro e w10 ⟨rfl, rfl⟩
    go_wp2_with fail
    refine (fill_any [] _).mono ?_
    rintro e w10 ⟨rfl, b10⟩
    rw [fill_nil]
    have h10 := Lib.hid (h9.out.more b10)
    clear b10 h9
    go_wp2_with fail
    refine (FA.out _).mono ?_
    rintro e w14 ⟨rfl, b14⟩
    replace h10 := Lib.hid (h10.out.more b14)
    clear b14
    go_wp2_with fail
    refine (FA.out _).mono ?_
    rintro e w11 ⟨rfl, b11⟩
    have h11 := Lib.hid (h10.out.more b11)
    clear b11 h10
    go_wp2_with fail
    refine (FB.out _).mono ?_
    rintro e w12 ⟨rfl, b12⟩
    have h12 := Lib.hid (h11.out.more b12)
    clear b12 h11
    go_wp2_with fail
    refine (iSectors h12.out.fst).mono ?_
    rintro e w13 ⟨rfl, rfl⟩
    rw [show (((dq [fa, zsec, zsec] []).safe.length : Nat) : Int) = 3 from rfl]
    go_wp2
    go_ret
    exact ⟨rfl, h12.out.fst.was.1⟩
end Go.Proofs.Ytnphpnbliigfbaa
