/- Scan of package frame. No condition. -/
import Derived.Test.YtofejnhnnmnfpaaDoorFTk2
import Derived.Test.YtofejnhnnmnfpaaDoorFTk3
import Derived.Test.YtofejnhnnmnfpaaDoorFTk4
namespace Go.Proofs.YtofejnhnnmnfpaaDoor.Fr
set_option maxRecDepth 100000
open Go.RowKit

theorem take_fits {s s' : St} {b : List UInt8} (h : take s b = some s') : ∃ x, dec b = some x ∧ fits s x = true ∧ s' = eat s x := by
  cases hd : dec b with
  | none => rw [take, hd] at h; cases h
  | some x =>
    rw [take, hd] at h
    simp only at h
    split at h
    · cases h; exact ⟨x, rfl, ‹_›, rfl⟩
    · cases h
theorem Inv.take {s s' : St} {b : List UInt8} (hi : Inv s) (h : take s b = some s') : Inv s' := by
  obtain ⟨x, hd, hf, rfl⟩ := take_fits h
  exact hi.eat hf (dec_some hd).1
theorem take_some (w0 : World) (B : Nat) (s s' : St) (b : List UInt8) (w : World) (hs : SAt w0 w B s) (hi : Inv s) (hb : b.length ≤ 140737488351232) (h : take s b = some s') :
    Calls Tryd.prog 55 #[.pointer (some ⟨B, 0, none⟩), .string (mk b)] w fun e w' => e = .returned (.bool true) ∧ SAt w0 w' B s' := by
  obtain ⟨x, hd, hf, rfl⟩ := take_fits h
  obtain ⟨xe, xi, xf, xp⟩ := x
  cases xf with
  | false => exact take_later w0 B s xe xi xp b w hs hi hb hd hf
  | true =>
    by_cases c : xe = s.epoch
    · exact take_fresh1 w0 B s xe xi xp b w hs hi hb hd hf c
    · exact take_fresh2 w0 B s xe xi xp b w hs hi hb hd hf c
theorem Inv.start : Inv st0 := by simp [Inv, st0]

set_option maxHeartbeats 1600000 in
theorem scan_any (a : Option Addr) (c : Nat) (l : List (List UInt8)) (r : St) (w : World) (hl : l.length ≤ 1000000) (hlen : ∀ b ∈ l, b.length ≤ 140737488351232) (ha : TAt w a l) (hr : scan st0 l = r) :
    Calls Tryd.prog 30 #[.slice a l.length c] w fun e w' => ∃ v, e = .returned (.tuple #[v, .int .i64 r.end_, .int .i64 r.last]) ∧ w'.ownsRow w.heap.size 9 1 v r.l.length (scells r.l) ∧ Below w.heap.size w w' := by
  replace ha := Lib.hid ha
  replace hlen := Lib.hid hlen
  replace hr := Lib.hid hr
  go_enter Tryd.func30, Tryd.ntmps30
  go_wp2
  go_loopw [12] (fun i wr => ∃ k : Nat, k ≤ l.length ∧ i = .int .i64 k ∧ ∃ s, Hid (Inv s ∧ scan s (l.drop k) = r) ∧ SAt w wr w.heap.size s) (fun i _ => l.length - (intOf i).toNat)
  case atStart =>
    refine ⟨0, Nat.zero_le _, rfl, st0, Lib.hid ⟨Inv.start, hr.out⟩, .slice none 0 0, heap_alloc_new w _, World.ownsRow_nil _ _ _ _, Nat.le_refl _, (Below.refl _ _).alloc (Nat.le_refl _) _⟩
  case round =>
    obtain ⟨k, hk, rfl, s, hs, hS⟩ := hrel
    replace hS := Lib.hid hS
    by_cases hlt : k < l.length
    · obtain ⟨b, o, rfl, hc⟩ := ha.out k hlt
      have hdr : l.drop k = l[k] :: l.drop (k + 1) := List.drop_eq_getElem_cons hlt
      have hmem : l[k] ∈ l := List.getElem_mem hlt
      obtain ⟨x, hx⟩ : ∃ x, x = l[k] := ⟨_, rfl⟩
      rw [← hx] at hc hdr hmem
      have hxl := hlen.out x hmem
      have hw := hS.out
      obtain ⟨v, hB, ho, hle, hbel⟩ := hw
      have hlt' := World.block_lt_of_cell? w _ hc
      have hc' := (hbel.cell (p := ⟨b, o + k, none⟩) hlt').trans hc
      clear hc hbel hB ho hle hmem
      replace hx := Lib.hid hx
      replace hdr := Lib.hid hdr
      replace hlt' := Lib.hid hlt'
      have hr2 := hs.out.2
      rw [hdr.out] at hr2
      cases ht : take s x with
      | none =>
        rw [scan_none _ ht] at hr2
        subst hr2
        go_wp2_with fail
        refine (take_none w w.heap.size s x _ hS.out hs.out.1 hxl ht).mono ?_
        rintro e w2 ⟨rfl, v2, hB2, ho2, _, hw2⟩
        have c4 : w2.cell? ⟨w.heap.size, 4, none⟩ = some v2 := cell_of hB2 rfl
        have c5 : w2.cell? ⟨w.heap.size, 5, none⟩ = some (.int .i64 s.end_) := cell_of hB2 rfl
        have c6 : w2.cell? ⟨w.heap.size, 6, none⟩ = some (.int .i64 s.last) := cell_of hB2 rfl
        replace hB2 := Lib.hid hB2
        replace ho2 := Lib.hid ho2
        replace hw2 := Lib.hid hw2
        go_wp2_with fail
        go_quiet (fail)
        go_wp2
        go_ret3
        exact ⟨_, rfl, ho2.out, Below.drewN hw2.out _⟩
      | some s' =>
        rw [scan_some _ ht] at hr2
        replace hr2 := Lib.hid hr2
        go_wp2_with fail
        refine (take_some w w.heap.size s s' x _ hS.out hs.out.1 hxl ht).mono ?_
        rintro e w2 ⟨rfl, hS2⟩
        replace hS2 := Lib.hid hS2
        go_wp2
        go_roundw
        case rel => exact ⟨k + 1, hlt, by go_num, s', Lib.hid ⟨hs.out.1.take ht, hr2.out⟩, hS2.out⟩
        case measure => simp [intOf]; omega
    · obtain rfl : k = l.length := by omega
      have hr2 := hs.out.2
      rw [List.drop_length, scan] at hr2
      subst hr2
      obtain ⟨v2, hB2, ho2, _, hw2⟩ := hS.out
      have c4 : wr.cell? ⟨w.heap.size, 4, none⟩ = some v2 := cell_of hB2 rfl
      have c5 : wr.cell? ⟨w.heap.size, 5, none⟩ = some (.int .i64 s.end_) := cell_of hB2 rfl
      have c6 : wr.cell? ⟨w.heap.size, 6, none⟩ = some (.int .i64 s.last) := cell_of hB2 rfl
      replace hB2 := Lib.hid hB2
      replace ho2 := Lib.hid ho2
      replace hw2 := Lib.hid hw2
      go_wp2
      go_quiet (fail)
      go_wp2
      go_ret3
      exact ⟨_, rfl, ho2.out, Below.drewN hw2.out _⟩
end Go.Proofs.YtofejnhnnmnfpaaDoor.Fr
