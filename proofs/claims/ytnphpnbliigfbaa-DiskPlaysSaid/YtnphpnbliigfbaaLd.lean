/- Disks as the statements use them: plain facts. No condition. -/
import Derived.Test.YtnphpnbliigfbaaDa
namespace Go.Proofs.Ytnphpnbliigfbaa
open Go.RowKit

def fx : List UInt8 := fill [120]
def fy : List UInt8 := fill [121]
def fz : List UInt8 := fill [122]
/-- So many writes of one text, from sector 0 on. -/
def run (s : List UInt8) (j : Nat) : List (Nat × List UInt8) := (List.range j).map (fun i => (i, s))
theorem run_length (s : List UInt8) (j : Nat) : (run s j).length = j := by simp [run]
theorem run_snoc (s : List UInt8) (j : Nat) : run s j ++ [(j, s)] = run s (j + 1) := by simp [run, List.range_succ]
/-- A disk of n sectors that is written from 0 on, and stops behind a writes. -/
def dks (s : List UInt8) (n a j : Nat) (dead : Bool) : Dk := { safe := List.replicate n zsec, pend := run s j, stops := true, after := a - j, dead := dead }
theorem q_stop (s : List UInt8) (n a : Nat) : dstop (dnew n) a = dks s n a 0 false := by simp [dstop, dnew, dks, run]
theorem q_write (s : List UInt8) (hl : s.length = 64) (n a j : Nat) (h : j < n) (ha : j < a) : dwrite (dks s n a j false) j s = (dks s n a (j + 1) false, 0) := by
  have h1 : ¬ a - j = 0 := by omega
  simp [dwrite, dks, isIn, hl, h, h1, run_snoc]
  omega
theorem q_dies (x : List UInt8) (n a : Nat) (k : Nat) (s : List UInt8) (hs : s.length = 64) (h : k < n) : dwrite (dks x n a a false) k s = (dks x n a a true, 10) := by
  simp [dwrite, dks, isIn, hs, h]
theorem q_dead (x : List UInt8) (n a : Nat) (k : Int) (s : List UInt8) : dwrite (dks x n a a true) k s = (dks x n a a true, 10) := by simp [dwrite, dks]

theorem q_crash (x : List UInt8) (n a j : Nat) (b : Bool) : dcrash (dks x n a j b) [] = (dnew n, 0) := by simp [dcrash, dks, dnew, keptOf_nil, dset]
theorem q_first (n : Nat) (s : List UInt8) (h : s.length = 64) (hn : 1 ≤ n) : dwrite (dnew n) 0 s = ({ dnew n with pend := [(0, s)] }, 0) := by
  simp [dwrite, dnew, isIn, h]; omega

/-- A disk of n sectors that is written from 0 on, and never stops. -/
def dkw (s : List UInt8) (n j : Nat) : Dk := { safe := List.replicate n zsec, pend := run s j, stops := false, after := 0, dead := false }
theorem dkw_zero (s : List UInt8) (n : Nat) : dnew n = dkw s n 0 := rfl
theorem q_go (s : List UInt8) (hl : s.length = 64) (n j : Nat) (h : j < n) : dwrite (dkw s n j) j s = (dkw s n (j + 1), 0) := by
  simp [dwrite, dkw, isIn, hl, h, run_snoc]
theorem latest_one (k : Nat) (s : List UInt8) (i : Nat) : latest [(k, s)] i = if i = k then some s else none := by
  have := latest_snoc [] k s i
  simpa [latest_nil] using this
end Go.Proofs.Ytnphpnbliigfbaa
