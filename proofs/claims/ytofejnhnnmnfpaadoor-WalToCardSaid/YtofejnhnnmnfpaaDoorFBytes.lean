/- bytes and Count of package frame. No condition. -/
import Derived.Test.YtofejnhnnmnfpaaDoorFBld
import Derived.Test.YtofejnhnnmnfpaaDoorFLaw
namespace Go.Proofs.YtofejnhnnmnfpaaDoor.Fr
set_option maxRecDepth 100000
open Go.RowKit

/-- A row of texts that came in, or was made. -/
def TAt (w : World) (a : Option Addr) (l : List (List UInt8)) : Prop := ∀ j (h : j < l.length), ∃ b o, a = some ⟨b, o, none⟩ ∧ w.cell? ⟨b, o + j, none⟩ = some (.string (mk l[j]))
theorem TAt.more {w w' : World} {a : Option Addr} {l : List (List UInt8)} (h : TAt w a l) (hb : Below w.heap.size w w') : TAt w' a l := fun j hj => by
  obtain ⟨b, o, e, hc⟩ := h j hj
  exact ⟨b, o, e, (World.cell?_of_block (w := w) (hb.block _ (World.block_lt_of_cell? w _ hc))).trans hc⟩
def recsOkB (l : List (List UInt8)) : Bool := l.all fun r => decide (1 ≤ r.length) && decide (r.length ≤ 65535)
theorem recsOkB_iff {l : List (List UInt8)} : recsOkB l = true ↔ recsOk l := by simp [recsOkB, recsOk]
def bytesOf (l : List (List UInt8)) : List UInt8 := if recsOkB l then stream l else []
theorem bytesOf_ok {l : List (List UInt8)} (h : recsOk l) : bytesOf l = stream l := by rw [bytesOf, if_pos (recsOkB_iff.2 h)]
theorem bytesOf_bad {l : List (List UInt8)} (h : ¬ recsOk l) : bytesOf l = [] := by rw [bytesOf, if_neg (fun c => h (recsOkB_iff.1 c))]
theorem stream_take_le (l : List (List UInt8)) (k : Nat) : (stream (l.take k)).length ≤ (stream l).length := by
  have : stream l = stream (l.take k) ++ stream (l.drop k) := by rw [stream, stream, stream, ← List.flatMap_append, List.take_append_drop]
  rw [this, List.length_append]; omega
theorem stream_take_succ (l : List (List UInt8)) (k : Nat) (h : k < l.length) : stream (l.take (k + 1)) = stream (l.take k) ++ (be 2 l[k].length ++ l[k]) := by
  rw [List.take_succ_eq_append_getElem h, stream_snoc]
theorem stream_two (l : List (List UInt8)) : 2 * l.length ≤ (stream l).length := by
  induction l with
  | nil => simp
  | cons r l ih => rw [stream_cons]; simp [be_length]; omega
theorem rec_len (l : List (List UInt8)) (k : Nat) (h : k < l.length) : l[k].length ≤ (stream l).length := by
  have h1 := stream_take_le l (k + 1)
  rw [stream_take_succ l k h] at h1
  simp only [List.length_append] at h1
  omega
attribute [local go_sem] mk_size mk_append be_length List.length_append

set_option maxHeartbeats 1600000 in
theorem bytes_any (a : Option Addr) (c : Nat) (l : List (List UInt8)) (w : World) (hl : (stream l).length ≤ 1099511627776) (ha : TAt w a l) :
    Calls Tryd.prog 69 #[.slice a l.length c] w fun e w' => e = .returned (.string (mk (bytesOf l))) ∧ Below w.heap.size w w' := by
  have h2 := stream_two l
  replace ha := Lib.hid ha
  go_enter Tryd.func69, Tryd.ntmps69
  go_wp2
  go_loopw [8] (fun i wr => ∃ k : Nat, k ≤ l.length ∧ i = .int .i64 k ∧ (∀ r ∈ l.take k, 1 ≤ r.length ∧ r.length ≤ 65535) ∧ Lib.IsBuilder 98 5 w.heap.size w.heap.size (bcells (stream (l.take k))) wr ∧ Below w.heap.size w wr) (fun i _ => l.length - (intOf i).toNat)
  case atStart => exact ⟨0, Nat.zero_le _, rfl, (fun r hr => by simp at hr), Lib.fresh_isBuilder _ _ _, (Below.refl _ _).alloc (Nat.le_refl _) _⟩
  case round =>
    obtain ⟨k, hk, rfl, hok, hbl, hb⟩ := hrel
    replace hok := Lib.hid hok
    replace hbl := Lib.hid hbl
    replace hb := Lib.hid hb
    by_cases hlt : k < l.length
    · obtain ⟨b, o, rfl, hc⟩ := ha.out k hlt
      have hrl := rec_len l k hlt
      have hst := stream_take_succ l k hlt
      have hsl := stream_take_le l (k + 1)
      have hmem : l[k] ∈ l := List.getElem_mem hlt
      obtain ⟨r, hr⟩ : ∃ r, r = l[k] := ⟨_, rfl⟩
      rw [← hr] at hc hrl hst hmem
      have hlt' := World.block_lt_of_cell? w _ hc
      have hc' := (hb.out.cell (p := ⟨b, o + k, none⟩) hlt').trans hc
      replace hr := Lib.hid hr
      clear hc
      replace hst := Lib.hid hst
      replace hmem := Lib.hid hmem
      by_cases c0 : r = []
      · subst c0
        go_wp2
        go_ret
        exact ⟨by rw [bytesOf_bad (fun h => by have := (h [] hmem.out).1; simp at this)]; rfl, hb.out⟩
      have hpos := List.length_pos_iff.2 c0
      have c6 : r.isEmpty = false := by cases r with | nil => exact absurd rfl c0 | cons _ _ => rfl
      by_cases c1 : (65535 : Int) < r.length
      · go_wp2
        go_ret
        exact ⟨by rw [bytesOf_bad (fun h => by have := (h r hmem.out).2; omega)]; rfl, hb.out⟩
      · have c1' : (r.length : Int) ≤ 65535 := by omega
        go_wp2_with fail
        refine (number_any r.length 2 _ (by omega)).mono ?_
        rintro e w2 ⟨rfl, hb2⟩
        have hbl2 := Lib.hid (builder_more hbl.out hb2)
        have hbb2 := Lib.hid (hb.out.trans (hb2.mono hb.out.size))
        have hz2 := hb2.size
        clear hb2 hbl
        have hle := hsl
        rw [hst.out] at hle
        simp only [List.length_append, be_length] at hle
        have hs1 : ¬ 9223372036854775807 < 2 + r.length := by omega
        go_wp2_with fail
        refine (writeString_any w.heap.size w.heap.size _ (mk (be 2 r.length ++ r)) w2 hbl2.out (by rw [bcells_length, mk_size]; simp only [List.length_append, be_length]; omega) (by have := hbb2.out.size; omega)).mono ?_
        rintro e w3 ⟨rfl, hbl3, hb3⟩
        have hbb3 := Lib.hid (hbb2.out.trans hb3)
        replace hbl3 := Lib.hid hbl3
        clear hb3 hbl2 hle hs1
        go_wp2
        go_roundw
        case rel =>
          refine ⟨k + 1, by omega, by go_num, ?_, .inr ?_, hbb3.out⟩
          · intro x hx
            rw [List.take_succ_eq_append_getElem hlt, List.mem_append, List.mem_singleton, ← hr.out] at hx
            rcases hx with hx | rfl
            · exact hok.out x hx
            · exact ⟨hpos, by omega⟩
          · have := hbl3.out
            rw [bcells_str, mk_list, ← bcells_append, ← hst.out] at this
            exact this
        case measure => simp [intOf]; omega
    · obtain rfl : k = l.length := by omega
      rw [List.take_length] at hok hbl
      go_wp2_with fail
      refine (Go.Proofs.Tryd.Builder_String_any w.heap.size w.heap.size (stream l) wr hbl.out hb.out.size).mono ?_
      rintro e w2 ⟨rfl, hb2⟩
      have hbb2 := Lib.hid (hb.out.trans hb2)
      clear hb2
      go_wp2
      go_ret
      exact ⟨by rw [bytesOf_ok hok.out]; rfl, hbb2.out⟩
end Go.Proofs.YtofejnhnnmnfpaaDoor.Fr
