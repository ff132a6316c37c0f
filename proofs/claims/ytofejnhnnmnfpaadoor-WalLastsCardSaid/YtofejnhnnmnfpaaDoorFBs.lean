/- A strings.Builder of the call's own: WriteString, String. No condition. -/
import Derived.Test.YtofejnhnnmnfpaaDoorFNs
import Derived.Test.YtofejnhnnmnfpaaDoorShelf
import Derived.Shelf.Strings.Builder1
import Derived.Test.YtofejnhnnmnfpaaDoorFPut
import Derived.WalkLawsBesides
namespace Go.Proofs.YtofejnhnnmnfpaaDoor.Fr
set_option maxRecDepth 100000
open Go.RowKit

theorem sizeBld : (Tryd.prog.info? 98).map (·.size) = some 2 := by kernel_rfl
theorem liesBld : liesAt Tryd.prog Tryd.prog.depth 98 (2 / (Tryd.prog.cellsOf 98)) 0 98 1 = true := by kernel_rfl

set_option maxRecDepth 100000 in
set_option maxHeartbeats 1000000 in
theorem copyCheck_used (b : Nat) (w : World) (h0 : w.cell? ⟨b, 0, none⟩ = some (.pointer (some ⟨b, 0, none⟩))) :
    Calls Tryd.prog 76 #[.pointer (some ⟨b, 0, none⟩)] w fun e w' => e = .returned (.tuple #[]) ∧ w' = w := by
  obtain ⟨j, hj, _⟩ := Option.map_eq_some_iff.1 sizeBld
  go_enter Tryd.func76, Tryd.ntmps76
  go_wp2
  rw [Lib.run_neq_ptr_same w _ Tryd.underlying96 hj]
  go_wp2
  go_end0
  exact ⟨rfl, rfl⟩
set_option maxRecDepth 100000 in
set_option maxHeartbeats 1000000 in
theorem copyCheck_fresh (b : Nat) (w : World) (h0 : w.cell? ⟨b, 0, none⟩ = some (.pointer none)) (hsh : w.shape? b = some (98, 2)) (hfz : w.frozen? ⟨b, 0, none⟩ = false) :
    Calls Tryd.prog 76 #[.pointer (some ⟨b, 0, none⟩)] w fun e w' => e = .returned (.tuple #[]) ∧ w' = w.setCell ⟨b, 0, none⟩ (.pointer (some ⟨b, 0, none⟩)) := by
  obtain ⟨j, hj, hjs⟩ := Option.map_eq_some_iff.1 sizeBld
  go_enter Tryd.func76, Tryd.ntmps76
  go_wp2
  rw [Lib.run_to_unsafe w ⟨b, 0, none⟩ Tryd.underlying96 Tryd.underlying142 hj (by rw [hjs]; decide) hsh (Nat.zero_lt_succ 1)]
  simp only [Result.andThen]
  rw [Oper.upon_value]
  go_wp2
  rw [run_callFunc_extern Tryd.func91 (by kernel_rfl) (by kernel_rfl) (by kernel_rfl) (e := Extern.AbiNoEscape.same) (by kernel_rfl)]
  rw [Lib.run_noEscape]
  simp only [Result.andThen]
  rw [Oper.upon_value]
  go_wp2
  rw [Lib.run_from_unsafe w ⟨b, 0, none⟩ Tryd.underlying142 Tryd.underlying96 hj hsh liesBld]
  simp only [Result.andThen]
  rw [Oper.upon_value]
  go_wp2
  go_end0
  exact ⟨rfl, rfl⟩
theorem copyCheck_any (B b : Nat) (bs : List Value) (w : World) (h : Lib.IsBuilder 98 5 B b bs w) :
    Calls Tryd.prog 76 #[.pointer (some ⟨b, 0, none⟩)] w fun e w' => e = .returned (.tuple #[]) ∧ (Lib.BuilderAt 98 5 B b (.pointer (some ⟨b, 0, none⟩)) bs w' ∧ Below B w w') := by
  rcases h with h | h
  · refine (copyCheck_fresh b w h.cell0 h.shape h.frozen0).mono ?_
    rintro e w' ⟨rfl, rfl⟩
    exact ⟨rfl, h.used _, (Below.refl B w).setCell (p := ⟨b, 0, none⟩) h.1 _⟩
  · refine (copyCheck_used b w h.cell0).mono ?_
    rintro e w' ⟨rfl, rfl⟩
    exact ⟨rfl, h, Below.refl B _⟩

set_option maxRecDepth 100000 in
set_option maxHeartbeats 1000000 in
theorem writeString_any (B b : Nat) (bs : List Value) (s : ByteArray) (w : World) (h : Lib.IsBuilder 98 5 B b bs w) (hlen : bs.length + s.size ≤ 140737488355328) (hBw : B ≤ w.heap.size) :
    Calls Tryd.prog 51 #[.pointer (some ⟨b, 0, none⟩), .string s] w fun e w' => e = .returned (.tuple #[.int .i64 s.size, .nilIface]) ∧ (Lib.BuilderAt 98 5 B b (.pointer (some ⟨b, 0, none⟩)) (bs ++ Lib.strCells s) w' ∧ Below B w w') := by
  obtain ⟨i0, hi, hz0, hz1, hz2⟩ := info_parts Tryd.infoU8
  go_enter Tryd.func51, Tryd.ntmps51
  go_wp2_with fail
  refine (copyCheck_any B b bs _ h).mono ?_
  rintro e w1 ⟨rfl, h1, hb1⟩
  obtain ⟨hB, v, hbk, hown, hne⟩ := h1
  have c0 : w1.cell? ⟨b, 0, none⟩ = some (.pointer (some ⟨b, 0, none⟩)) := by rw [Lib.cell_of_heap hbk]; rfl
  have c1 : w1.cell? ⟨b, 1, none⟩ = some v := by rw [Lib.cell_of_heap hbk]; rfl
  go_wp2_with (at_builtin; refine Lib.wpList_append_own_string _ rfl _ _ 29 9 rfl B 5 i0 Tryd.underlying29 Tryd.underlying9 hi hz0 hz1 hz2 _ _ _ rfl hown s rfl ?c3 ?c4 ?c5 ?_)
  case c3 => unfold maxLen; omega
  case c4 => omega
  case c5 => have := hb1.size; omega
  intro v' w2 hown' hgrow _
  have hlt : b < w1.heap.size := by
    rcases Nat.lt_or_ge b w1.heap.size with h' | h'
    · exact h'
    · simp [Array.getElem?_eq_none h'] at hbk
  have hb2 : w2.heap[b]? = some (.cells #[.pointer (some ⟨b, 0, none⟩), v] 98 (0, 0)) := by
    rw [hgrow.block b hlt (fun e => hne e.symm)]
    exact hbk
  have d0 : w2.cell? ⟨b, 0, none⟩ = some (.pointer (some ⟨b, 0, none⟩)) := by rw [Lib.cell_of_heap hb2]; rfl
  have d1 : w2.cell? ⟨b, 1, none⟩ = some v := by rw [Lib.cell_of_heap hb2]; rfl
  have f1 : w2.frozen? ⟨b, 1, none⟩ = false := Lib.frozen_of_heap hb2 1
  obtain ⟨ao, n', cap, rfl⟩ : ∃ ao n' cap, v' = .slice ao n' cap := by
    rcases hown'.2 with ⟨hv, _⟩ | ⟨g, cap, cur, hv, _⟩
    · exact ⟨_, _, _, hv⟩
    · exact ⟨_, _, _, hv⟩
  go_wp2
  go_ret2
  refine ⟨rfl, ?_, ?_⟩
  · exact Lib.BuilderAt.put (T := 98) (e := 5) hB hb2 (bs' := bs ++ Lib.strCells s) (by simpa [Lib.strCells_length] using hown') (by decide)
  · exact (hb1.grown hgrow (by have := hb1.size; omega) (fun k hk => (hown.lt k hk).1)).setCell (p := ⟨b, 1, none⟩) hB _

/-- A builder is what it was where blocks behind it are made. -/
theorem builder_more {B b : Nat} {bs : List Value} {w w' : World} (h : Lib.IsBuilder 98 5 B b bs w) (hb : Below w.heap.size w w') : Lib.IsBuilder 98 5 B b bs w' := by
  have H : ∀ p, Lib.BuilderAt 98 5 B b p bs w → Lib.BuilderAt 98 5 B b p bs w' := by
    rintro p ⟨hB, v, hbk, hown, hne⟩
    exact ⟨hB, v, (hb.block _ (lt_of hbk)).trans hbk, (Chg.of_below hb).row hown (fun _ _ => id), hne⟩
  rcases h with h | h
  · exact .inl (H _ h)
  · exact .inr (H _ h)
theorem builder_base {B b : Nat} {bs : List Value} {w : World} (h : Lib.IsBuilder 98 5 B b bs w) : b < w.heap.size ∧ B ≤ b := by
  rcases h with ⟨hB, v, hbk, _⟩ | ⟨hB, v, hbk, _⟩
  · exact ⟨lt_of hbk, hB⟩
  · exact ⟨lt_of hbk, hB⟩
end Go.Proofs.YtofejnhnnmnfpaaDoor.Fr
/- bytes and Count of package frame. No condition. -/
namespace Go.Proofs.YtofejnhnnmnfpaaDoor.Fr
set_option maxRecDepth 100000
open Go.RowKit

/-- A row of texts that came in, or was made. -/
def TAt (w : World) (a : Option Addr) (l : List (List UInt8)) : Prop := ∀ j (h : j < l.length), ∃ b o, a = some ⟨b, o, none⟩ ∧ w.cell? ⟨b, o + j, none⟩ = some (.string (mk l[j]))
theorem TAt.more {w w' : World} {a : Option Addr} {l : List (List UInt8)} (h : TAt w a l) (hb : Below w.heap.size w w') : TAt w' a l := fun j hj => by
  obtain ⟨b, o, e, hc⟩ := h j hj
  exact ⟨b, o, e, (World.cell?_of_block (w := w) (hb.block _ (World.block_lt_of_cell? w _ hc))).trans hc⟩
def recsOkB (l : List (List UInt8)) : Bool := l.all fun r => decide (1 ≤ r.length) && decide (r.length ≤ 65535)
theorem recsOkB_iff {l : List (List UInt8)} : recsOkB l = true ↔ recsOk l := by simp [recsOkB, recsOk]
def bytesOf (l : List (List UInt8)) : List UInt8 := if recsOkB l then stream l else []
theorem bytesOf_ok {l : List (List UInt8)} (h : recsOk l) : bytesOf l = stream l := by rw [bytesOf, if_pos (recsOkB_iff.2 h)]
theorem bytesOf_bad {l : List (List UInt8)} (h : ¬ recsOk l) : bytesOf l = [] := by rw [bytesOf, if_neg (fun c => h (recsOkB_iff.1 c))]
theorem stream_take_le (l : List (List UInt8)) (k : Nat) : (stream (l.take k)).length ≤ (stream l).length := by
  have : stream l = stream (l.take k) ++ stream (l.drop k) := by rw [stream, stream, stream, ← List.flatMap_append, List.take_append_drop]
  rw [this, List.length_append]; omega
theorem stream_take_succ (l : List (List UInt8)) (k : Nat) (h : k < l.length) : stream (l.take (k + 1)) = stream (l.take k) ++ (be 2 l[k].length ++ l[k]) := by
  rw [List.take_succ_eq_append_getElem h, stream_snoc]
theorem stream_two (l : List (List UInt8)) : 2 * l.length ≤ (stream l).length := by
  induction l with
  | nil => simp
  | cons r l ih => rw [stream_cons]; simp [be_length]; omega
theorem rec_len (l : List (List UInt8)) (k : Nat) (h : k < l.length) : l[k].length ≤ (stream l).length := by
  have h1 := stream_take_le l (k + 1)
  rw [stream_take_succ l k h] at h1
  simp only [List.length_append] at h1
  omega
attribute [local go_sem] mk_size mk_append be_length List.length_append

set_option maxHeartbeats 1600000 in
theorem bytes_any (a : Option Addr) (c : Nat) (l : List (List UInt8)) (w : World) (hl : (stream l).length ≤ 1099511627776) (ha : TAt w a l) :
    Calls Tryd.prog 69 #[.slice a l.length c] w fun e w' => e = .returned (.string (mk (bytesOf l))) ∧ Below w.heap.size w w' := by
  have h2 := stream_two l
  replace ha := Lib.hid ha
  go_enter Tryd.func69, Tryd.ntmps69
  go_wp2
  go_loopw [8] (fun i wr => ∃ k : Nat, k ≤ l.length ∧ i = .int .i64 k ∧ (∀ r ∈ l.take k, 1 ≤ r.length ∧ r.length ≤ 65535) ∧ Lib.IsBuilder 98 5 w.heap.size w.heap.size (bcells (stream (l.take k))) wr ∧ Below w.heap.size w wr) (fun i _ => l.length - (intOf i).toNat)
  case atStart => exact ⟨0, Nat.zero_le _, rfl, (fun r hr => by simp at hr), Lib.fresh_isBuilder _ _ _, (Below.refl _ _).alloc (Nat.le_refl _) _⟩
  case round =>
    obtain ⟨k, hk, rfl, hok, hbl, hb⟩ := hrel
    replace hok := Lib.hid hok
    replace hbl := Lib.hid hbl
    replace hb := Lib.hid hb
    by_cases hlt : k < l.length
    · obtain ⟨b, o, rfl, hc⟩ := ha.out k hlt
      have hrl := rec_len l k hlt
      have hst := stream_take_succ l k hlt
      have hsl := stream_take_le l (k + 1)
      have hmem : l[k] ∈ l := List.getElem_mem hlt
      obtain ⟨r, hr⟩ : ∃ r, r = l[k] := ⟨_, rfl⟩
      rw [← hr] at hc hrl hst hmem
      have hlt' := World.block_lt_of_cell? w _ hc
      have hc' := (hb.out.cell (p := ⟨b, o + k, none⟩) hlt').trans hc
      replace hr := Lib.hid hr
      clear hc
      replace hst := Lib.hid hst
      replace hmem := Lib.hid hmem
      by_cases c0 : r = []
      · subst c0
        go_wp2
        go_ret
        exact ⟨by rw [bytesOf_bad (fun h => by have := (h [] hmem.out).1; simp at this)]; rfl, hb.out⟩
      have hpos := List.length_pos_iff.2 c0
      have c6 : r.isEmpty = false := by cases r with | nil => exact absurd rfl c0 | cons _ _ => rfl
      by_cases c1 : (65535 : Int) < r.length
      · go_wp2
        go_ret
        exact ⟨by rw [bytesOf_bad (fun h => by have := (h r hmem.out).2; omega)]; rfl, hb.out⟩
      · have c1' : (r.length : Int) ≤ 65535 := by omega
        go_wp2_with fail
        refine (number_any r.length 2 _ (by omega)).mono ?_
        rintro e w2 ⟨rfl, hb2⟩
        have hbl2 := Lib.hid (builder_more hbl.out hb2)
        have hbb2 := Lib.hid (hb.out.trans (hb2.mono hb.out.size))
        have hz2 := hb2.size
        clear hb2 hbl
        have hle := hsl
        rw [hst.out] at hle
        simp only [List.length_append, be_length] at hle
        have hs1 : ¬ 9223372036854775807 < 2 + r.length := by omega
        go_wp2_with fail
        refine (writeString_any w.heap.size w.heap.size _ (mk (be 2 r.length ++ r)) w2 hbl2.out (by rw [bcells_length, mk_size]; simp only [List.length_append, be_length]; omega) (by have := hbb2.out.size; omega)).mono ?_
        rintro e w3 ⟨rfl, hbl3, hb3⟩
        have hbb3 := Lib.hid (hbb2.out.trans hb3)
        replace hbl3 := Lib.hid hbl3
        clear hb3 hbl2 hle hs1
        go_wp2
        go_roundw
        case rel =>
          refine ⟨k + 1, by omega, by go_num, ?_, .inr ?_, hbb3.out⟩
          · intro x hx
            rw [List.take_succ_eq_append_getElem hlt, List.mem_append, List.mem_singleton, ← hr.out] at hx
            rcases hx with hx | rfl
            · exact hok.out x hx
            · exact ⟨hpos, by omega⟩
          · have := hbl3.out
            rw [bcells_str, mk_list, ← bcells_append, ← hst.out] at this
            exact this
        case measure => simp [intOf]; omega
    · obtain rfl : k = l.length := by omega
      rw [List.take_length] at hok hbl
      go_wp2_with fail
      refine (Go.Proofs.Tryd.Builder_String_any w.heap.size w.heap.size (stream l) wr hbl.out hb.out.size).mono ?_
      rintro e w2 ⟨rfl, hb2⟩
      have hbb2 := Lib.hid (hb.out.trans hb2)
      clear hb2
      go_wp2
      go_ret
      exact ⟨by rw [bytesOf_ok hok.out]; rfl, hbb2.out⟩
end Go.Proofs.YtofejnhnnmnfpaaDoor.Fr
/- Batch and Count of package frame. No condition. -/
namespace Go.Proofs.YtofejnhnnmnfpaaDoor.Fr
set_option maxRecDepth 100000
open Go.RowKit

theorem Tryd.infoStr : (Tryd.prog.info? 9).map (fun i => (i.zero, i.size, i.bytes)) = some (some (Value.string ByteArray.empty), 1, 16) := by kernel_rfl
def scells (l : List (List UInt8)) : List Value := l.map fun b => .string (mk b)
theorem ret_int {k : IntKind} {a b : Int} (h : a = b) : Ending.returned (.int k a) = .returned (.int k b) := by rw [h]
theorem scells_length (l : List (List UInt8)) : (scells l).length = l.length := by simp [scells]
theorem scells_append (l m : List (List UInt8)) : scells (l ++ m) = scells l ++ scells m := by simp [scells]
/-- Of a row that a call made. -/
theorem TAt.own {w : World} {base : Nat} {v : Value} {n : Nat} {l : List (List UInt8)} (h : w.ownsRow base 9 1 v n (scells l)) : ∃ a c, v = .slice a l.length c ∧ TAt w a l := by
  have hn : n = l.length := by have := h.1; rw [scells_length] at this; omega
  subst hn
  rcases h.2 with ⟨rfl, h0⟩ | ⟨g, cap, cur, rfl, _⟩
  · exact ⟨none, 0, by rw [h0], fun j hj => by omega⟩
  · refine ⟨_, _, rfl, fun j hj => ⟨g, 0, rfl, ?_⟩⟩
    have := h.cells (g := g) (by simp [Value.ownBlock]) j (.string (mk l[j])) (by simp [scells, hj])
    rw [Addr.add_lit] at this
    simpa using this

set_option maxHeartbeats 400000 in
theorem count_any (a : Option Addr) (c : Nat) (l : List (List UInt8)) (w : World) (hl : (stream l).length ≤ 1099511627776) (ha : TAt w a l) :
    Calls Tryd.prog 33 #[.slice a l.length c] w fun e w' => e = .returned (.int .i64 (((bytesOf l).length + 55) / 56 : Nat)) ∧ Below w.heap.size w w' := by
  have hle : (bytesOf l).length ≤ 1099511627776 := by
    unfold bytesOf
    split
    · exact hl
    · simp
  go_enter Tryd.func33, Tryd.ntmps33
  go_wp2_with fail
  refine (bytes_any a c l _ hl ha).mono ?_
  rintro e w1 ⟨rfl, hb⟩
  have hz := mk_size (bytesOf l)
  obtain ⟨n, hn⟩ : ∃ n, n = (bytesOf l).length := ⟨_, rfl⟩
  rw [← hn] at hz hle
  replace hn := Lib.hid hn
  go_wp2
  go_ret
  exact ⟨ret_int (by rw [hn.out]; omega), hb⟩

theorem batch_none (e i : Int) (a : Option Addr) (c : Nat) (l : List (List UInt8)) (w : World) (hl : (stream l).length ≤ 1099511627776) (ha : TAt w a l) (h : bytesOf l = []) :
    Calls Tryd.prog 34 #[.int .i64 e, .int .i64 i, .slice a l.length c] w fun en w' => en = .returned (.tuple #[.slice none 0 0, .bool false]) ∧ Below w.heap.size w w' := by
  replace h := Lib.hid h
  go_enter Tryd.func34, Tryd.ntmps34
  go_wp2_with fail
  refine (bytes_any a c l _ hl ha).mono ?_
  rintro en w1 ⟨rfl, hb⟩
  rw [h.out]
  go_wp2
  go_ret2
  exact ⟨rfl, hb⟩
theorem grow_strs {w wr w1 : World} {v : Value} {n : Nat} {xs : List Value} {o : Obj} (h : wr.ownsRow w.heap.size 9 1 v n xs) (hb : Below w.heap.size w wr) (hg : (wr.alloc o).grownBy w1 v.ownBlock) : Below w.heap.size w w1 :=
  (hb.alloc hb.size o).grown hg (by have := hb.size; simp; omega) (fun k e => (h.lt k e).1)
theorem put_yes' (e i : Nat) (x : Int) (f : Bool) (p : List UInt8) (w : World) (h : secOk e i p = true) (hx : x = i) :
    Calls Tryd.prog 70 #[.agg #[.int .i64 e, .int .i64 x, .bool f, .string (mk p)]] w fun en w' => en = .returned (.tuple #[.string (mk (enc e i f p)), .bool true]) ∧ Below w.heap.size w w' := by
  subst hx
  exact put_yes e i f p w h

set_option maxHeartbeats 1600000 in
theorem batch_yes (e i : Nat) (a : Option Addr) (c : Nat) (l : List (List UInt8)) (w : World) (hl : (stream l).length ≤ 1000000) (ha : TAt w a l) (hok : recsOk l) (hne : l ≠ []) (he : 1 ≤ e) (he' : e ≤ 4294967295) (hi : i + cnt l ≤ 65536) :
    Calls Tryd.prog 34 #[.int .i64 e, .int .i64 i, .slice a l.length c] w fun en w' => ∃ v, en = .returned (.tuple #[v, .bool true]) ∧ w'.ownsRow w.heap.size 9 1 v (secs e i true (stream l)).length (scells (secs e i true (stream l))) ∧ Below w.heap.size w w' := by
  obtain ⟨ii, hi0, hz0, hz1, hz2⟩ := info_parts Tryd.infoStr
  have hS := bytesOf_ok hok
  have hSne := stream_ne hne
  obtain ⟨S, hSS⟩ : ∃ S, S = stream l := ⟨_, rfl⟩
  have hcnt : cnt l = (S.length + 55) / 56 := by rw [cnt, hSS]
  rw [← hSS] at hS hSne hl ⊢
  have hSl := secs_len e i true S
  rw [hcnt] at hi
  replace hcnt := Lib.hid hcnt
  obtain ⟨n, hn⟩ : ∃ n, n = (S.length + 55) / 56 := ⟨_, rfl⟩
  rw [← hn] at hi hSl
  have hpos := List.length_pos_iff.2 hSne
  replace hS := Lib.hid hS
  replace hSl := Lib.hid hSl
  have hn1 : 56 * n < S.length + 56 := by omega
  have hn2 : S.length ≤ 56 * n := by omega
  replace hn := Lib.hid hn
  have hemp : S.isEmpty = false := by cases S with | nil => exact absurd rfl hSne | cons _ _ => rfl
  replace hSS := Lib.hid hSS
  clear hSne hpos
  go_enter Tryd.func34, Tryd.ntmps34
  go_wp2_with fail
  refine (bytes_any a c l _ (by rw [← hSS.out]; omega) ha).mono ?_
  rintro en w1 ⟨rfl, hb1⟩
  rw [hS.out]
  replace hb1 := Lib.hid hb1
  clear ha
  go_wp2
  go_loopw [8, 9, 10, 1] (fun b v f x wr => ∃ k : Nat, k ≤ n ∧ b = .string (mk (S.drop (56 * k))) ∧ f = .bool (decide (k = 0)) ∧ x = .int .i64 ((i : Int) + k) ∧ wr.ownsRow w.heap.size 9 1 v ((secs e i true S).take k).length (scells ((secs e i true S).take k)) ∧ Below w.heap.size w wr) (fun _ _ _ x _ => (i : Nat) + n - (intOf x).toNat)
  case atStart => exact ⟨0, Nat.zero_le _, rfl, rfl, by simp, World.ownsRow_nil _ _ _ _, hb1.out⟩
  case round =>
    obtain ⟨k, hk, rfl, rfl, rfl, ho, hb⟩ := hrel
    replace ho := Lib.hid ho
    replace hb := Lib.hid hb
    clear hb1
    by_cases hlt : k < n
    · obtain ⟨R, hR⟩ : ∃ R, R = S.drop (56 * k) := ⟨_, rfl⟩
      have hRl : R.length = S.length - 56 * k := by rw [hR, List.length_drop]
      have hRpos : 1 ≤ R.length := by omega
      have hRemp : R.isEmpty = false := by cases R with | nil => simp at hRpos | cons _ _ => rfl
      have hRmax : R.length ≤ 1000000 := by omega
      have hsec : (secs e i true S).take (k + 1) = (secs e i true S).take k ++ [enc e (i + k) (decide (k = 0)) (R.take 56)] := by
        have hlt' : k < (secs e i true S).length := by rw [hSl.out]; exact hlt
        rw [List.take_succ_eq_append_getElem hlt', secs_get, ← hR]
        simp
      have hd : S.drop (56 * (k + 1)) = R.drop 56 := by rw [hR, List.drop_drop]; congr 1
      have hok2 : secOk e ((i + k : Nat) : Int) (R.take 56) = true := secOk_iff.2 (by simp only [List.length_take]; omega)
      have hln : ((secs e i true S).take k).length ≤ 65536 := by rw [List.length_take]; omega
      rw [← hR]
      clear hRl
      replace hR := Lib.hid hR
      replace hsec := Lib.hid hsec
      replace hd := Lib.hid hd
      replace hok2 := Lib.hid hok2
      obtain ⟨m, hm⟩ : ∃ m, m = min R.length 56 := ⟨_, rfl⟩
      have hmin : min (((mk R).size : Nat) : Int) 56 = (m : Int) := by rw [mk_size, hm]; omega
      have hx1 : (mk R).extract 0 m = mk (R.take 56) := by
        rw [mk_take, hm]
        by_cases c : R.length ≤ 56
        · rw [Nat.min_eq_left c, List.take_of_length_le (Nat.le_refl _), List.take_of_length_le c]
        · rw [Nat.min_eq_right (by omega)]
      have hx2 : (mk R).extract m (mk R).size = mk (R.drop 56) := by
        rw [mk_size, mk_drop _ _ (by omega), hm]
        by_cases c : R.length ≤ 56
        · rw [Nat.min_eq_left c, List.drop_of_length_le (Nat.le_refl _), List.drop_of_length_le c]
        · rw [Nat.min_eq_right (by omega)]
      have hm1 : (m : Int) ≤ ((mk R).size : Int) := by rw [mk_size]; omega
      have hm2 : m ≤ 56 := by omega
      replace hm := Lib.hid hm
      go_wp2_with fail
      refine (put_yes' e (i + k) _ _ (R.take 56) _ hok2.out (by omega)).mono ?_
      rintro en w2 ⟨rfl, hb2⟩
      have ho2 := Lib.hid ((Chg.of_below hb2).row ho.out (fun _ _ => id))
      have hbb2 := Lib.hid (hb.out.trans (hb2.mono hb.out.size))
      clear hb2 ho
      obtain ⟨ec, hec⟩ : ∃ ec, ec = enc e (i + k) (decide (k = 0)) (R.take 56) := ⟨_, rfl⟩
      rw [← hec] at hsec ⊢
      replace hec := Lib.hid hec
      go_wp2_with (at_builtin; refine wpList_append_own' rfl (.tmp 36) (.tmp 38) 56 rfl w.heap.size 9 ii (.string ByteArray.empty) 1 16 Tryd.underlying56 hi0 hz0 hz1 hz2 rfl (by decide) _ _ _ rfl (ho2.out.alloc _) ⟨w2.heap.size, 0, none⟩ 1 1 [.string (mk ec)] rfl rfl (new_one _ _ _ rfl) (by intro u hu; simp at hu; subst hu; rfl) (by unfold maxLen; omega) (by omega) (by have := hbb2.out.size; simp; omega) ?_; intro v' w3 hown' hgrow hrow; have hn1 := grow_strs ho2.out hbb2.out hgrow; have HO' := Lib.hid hown'; replace hn1 := Lib.hid hn1; clear hown' hgrow hrow ho2 hbb2)
      go_roundw
      case rel =>
        refine ⟨k + 1, by omega, by rw [hd.out], by simp, by go_num, ?_, hn1.out⟩
        rw [hsec.out, scells_append, List.length_append]
        exact HO'.out
      case measure => simp [intOf]; omega
    · obtain rfl : k = n := by omega
      have e1 : S.drop (56 * k) = [] := List.drop_of_length_le (by omega)
      have e2 : (secs e i true S).take k = secs e i true S := List.take_of_length_le (by rw [hSl.out]; exact Nat.le_refl _)
      rw [e2] at ho
      rw [e1]
      clear e1 e2
      go_wp2
      go_ret2
      exact ⟨_, rfl, ho.out, hb.out⟩
end Go.Proofs.YtofejnhnnmnfpaaDoor.Fr
/- Batch of package frame, where a sector may not be. No condition. -/
namespace Go.Proofs.YtofejnhnnmnfpaaDoor.Fr
set_option maxRecDepth 100000
open Go.RowKit

set_option maxRecDepth 100000 in
set_option maxHeartbeats 1600000 in
theorem batch_over (e i : Nat) (a : Option Addr) (c : Nat) (l : List (List UInt8)) (w : World) (hl : (stream l).length ≤ 1000000) (ha : TAt w a l) (hok : recsOk l) (hne : l ≠ []) (he : 1 ≤ e) (he' : e ≤ 4294967295) (hi0 : i ≤ 65535) (hi : 65536 < i + cnt l) :
    Calls Tryd.prog 34 #[.int .i64 e, .int .i64 i, .slice a l.length c] w fun en w' => en = .returned (.tuple #[.slice none 0 0, .bool false]) ∧ Below w.heap.size w w' := by
  obtain ⟨ii, hii, hz0, hz1, hz2⟩ := info_parts Tryd.infoStr
  have hS := bytesOf_ok hok
  have hSne := stream_ne hne
  obtain ⟨S, hSS⟩ : ∃ S, S = stream l := ⟨_, rfl⟩
  have hcnt : cnt l = (S.length + 55) / 56 := by rw [cnt, hSS]
  rw [← hSS] at hS hSne hl
  have hSl := secs_len e i true S
  rw [hcnt] at hi
  replace hcnt := Lib.hid hcnt
  obtain ⟨n, hn⟩ : ∃ n, n = (S.length + 55) / 56 := ⟨_, rfl⟩
  rw [← hn] at hi hSl
  have hpos := List.length_pos_iff.2 hSne
  replace hS := Lib.hid hS
  replace hSl := Lib.hid hSl
  have hn1 : 56 * n < S.length + 56 := by omega
  have hn2 : S.length ≤ 56 * n := by omega
  replace hn := Lib.hid hn
  have hemp : S.isEmpty = false := by cases S with | nil => exact absurd rfl hSne | cons _ _ => rfl
  replace hSS := Lib.hid hSS
  clear hSne hpos
  go_enter Tryd.func34, Tryd.ntmps34
  go_wp2_with fail
  refine (bytes_any a c l _ (by rw [← hSS.out]; omega) ha).mono ?_
  rintro en w1 ⟨rfl, hb1⟩
  rw [hS.out]
  replace hb1 := Lib.hid hb1
  clear ha
  go_wp2
  go_loopw [8, 9, 10, 1] (fun b v f x wr => ∃ k : Nat, k ≤ 65536 - i ∧ b = .string (mk (S.drop (56 * k))) ∧ f = .bool (decide (k = 0)) ∧ x = .int .i64 ((i : Int) + k) ∧ wr.ownsRow w.heap.size 9 1 v ((secs e i true S).take k).length (scells ((secs e i true S).take k)) ∧ Below w.heap.size w wr) (fun _ _ _ x _ => (i : Nat) + n - (intOf x).toNat)
  case atStart => exact ⟨0, Nat.zero_le _, rfl, rfl, by simp, World.ownsRow_nil _ _ _ _, hb1.out⟩
  case round =>
    obtain ⟨k, hk, rfl, rfl, rfl, ho, hb⟩ := hrel
    replace ho := Lib.hid ho
    replace hb := Lib.hid hb
    clear hb1
    have hlt : k < n := by omega
    by_cases hJ : k < 65536 - i
    · obtain ⟨R, hR⟩ : ∃ R, R = S.drop (56 * k) := ⟨_, rfl⟩
      have hRl : R.length = S.length - 56 * k := by rw [hR, List.length_drop]
      have hRpos : 1 ≤ R.length := by omega
      have hRemp : R.isEmpty = false := by cases R with | nil => simp at hRpos | cons _ _ => rfl
      have hRmax : R.length ≤ 1000000 := by omega
      have hsec : (secs e i true S).take (k + 1) = (secs e i true S).take k ++ [enc e (i + k) (decide (k = 0)) (R.take 56)] := by
        have hlt' : k < (secs e i true S).length := by rw [hSl.out]; exact hlt
        rw [List.take_succ_eq_append_getElem hlt', secs_get, ← hR]
        simp
      have hd : S.drop (56 * (k + 1)) = R.drop 56 := by rw [hR, List.drop_drop]; congr 1
      have hok2 : secOk e ((i + k : Nat) : Int) (R.take 56) = true := secOk_iff.2 (by simp only [List.length_take]; omega)
      have hln : ((secs e i true S).take k).length ≤ 65536 := by rw [List.length_take]; omega
      rw [← hR]
      clear hRl
      replace hR := Lib.hid hR
      replace hsec := Lib.hid hsec
      replace hd := Lib.hid hd
      replace hok2 := Lib.hid hok2
      obtain ⟨m, hm⟩ : ∃ m, m = min R.length 56 := ⟨_, rfl⟩
      have hmin : min (((mk R).size : Nat) : Int) 56 = (m : Int) := by rw [mk_size, hm]; omega
      have hx1 : (mk R).extract 0 m = mk (R.take 56) := by
        rw [mk_take, hm]
        by_cases c : R.length ≤ 56
        · rw [Nat.min_eq_left c, List.take_of_length_le (Nat.le_refl _), List.take_of_length_le c]
        · rw [Nat.min_eq_right (by omega)]
      have hx2 : (mk R).extract m (mk R).size = mk (R.drop 56) := by
        rw [mk_size, mk_drop _ _ (by omega), hm]
        by_cases c : R.length ≤ 56
        · rw [Nat.min_eq_left c, List.drop_of_length_le (Nat.le_refl _), List.drop_of_length_le c]
        · rw [Nat.min_eq_right (by omega)]
      have hm1 : (m : Int) ≤ ((mk R).size : Int) := by rw [mk_size]; omega
      have hm2 : m ≤ 56 := by omega
      replace hm := Lib.hid hm
      go_wp2_with fail
      refine (put_yes' e (i + k) _ _ (R.take 56) _ hok2.out (by omega)).mono ?_
      rintro en w2 ⟨rfl, hb2⟩
      have ho2 := Lib.hid ((Chg.of_below hb2).row ho.out (fun _ _ => id))
      have hbb2 := Lib.hid (hb.out.trans (hb2.mono hb.out.size))
      clear hb2 ho
      obtain ⟨ec, hec⟩ : ∃ ec, ec = enc e (i + k) (decide (k = 0)) (R.take 56) := ⟨_, rfl⟩
      rw [← hec] at hsec ⊢
      replace hec := Lib.hid hec
      go_wp2_with (at_builtin; refine wpList_append_own' rfl (.tmp 36) (.tmp 38) 56 rfl w.heap.size 9 ii (.string ByteArray.empty) 1 16 Tryd.underlying56 hii hz0 hz1 hz2 rfl (by decide) _ _ _ rfl (ho2.out.alloc _) ⟨w2.heap.size, 0, none⟩ 1 1 [.string (mk ec)] rfl rfl (new_one _ _ _ rfl) (by intro u hu; simp at hu; subst hu; rfl) (by unfold maxLen; omega) (by omega) (by have := hbb2.out.size; simp; omega) ?_; intro v' w3 hown' hgrow hrow; have hn1 := grow_strs ho2.out hbb2.out hgrow; have HO' := Lib.hid hown'; replace hn1 := Lib.hid hn1; clear hown' hgrow hrow ho2 hbb2)
      go_roundw
      case rel =>
        refine ⟨k + 1, by omega, by rw [hd.out], by simp, by go_num, ?_, hn1.out⟩
        rw [hsec.out, scells_append, List.length_append]
        exact HO'.out
      case measure => simp [intOf]; omega
    · obtain rfl : k = 65536 - i := by omega
      obtain ⟨R, hR⟩ : ∃ R, R = S.drop (56 * (65536 - i)) := ⟨_, rfl⟩
      have hRl : R.length = S.length - 56 * (65536 - i) := by rw [hR, List.length_drop]
      have hRpos : 1 ≤ R.length := by omega
      have hRemp : R.isEmpty = false := by cases R with | nil => simp at hRpos | cons _ _ => rfl
      have hRmax : R.length ≤ 1000000 := by omega
      have hno2 : secOk e ((i : Int) + (65536 - i : Nat)) (R.take 56) = false := by
        rw [Bool.eq_false_iff]
        intro h
        have := (secOk_iff.1 h).2.2.2.1
        omega
      rw [← hR]
      clear hRl
      replace hR := Lib.hid hR
      replace hno2 := Lib.hid hno2
      obtain ⟨m, hm⟩ : ∃ m, m = min R.length 56 := ⟨_, rfl⟩
      have hmin : min (((mk R).size : Nat) : Int) 56 = (m : Int) := by rw [mk_size, hm]; omega
      have hx1 : (mk R).extract 0 m = mk (R.take 56) := by
        rw [mk_take, hm]
        by_cases c : R.length ≤ 56
        · rw [Nat.min_eq_left c, List.take_of_length_le (Nat.le_refl _), List.take_of_length_le c]
        · rw [Nat.min_eq_right (by omega)]
      have hm1 : (m : Int) ≤ ((mk R).size : Int) := by rw [mk_size]; omega
      have hm2 : m ≤ 56 := by omega
      have htl : (R.take 56).length ≤ 140737488351232 := by rw [List.length_take]; omega
      replace hm := Lib.hid hm
      obtain ⟨y, hy⟩ : ∃ y : Int, y = (i : Int) + (65536 - i : Nat) := ⟨_, rfl⟩
      rw [← hy] at hno2 ⊢
      replace hy := Lib.hid hy
      go_wp2_with fail
      refine (put_no e y _ (R.take 56) _ htl hno2.out).mono ?_
      rintro en w2 ⟨rfl, hb2⟩
      have hbb2 := Lib.hid (hb.out.trans (hb2.mono hb.out.size))
      clear hb2 ho
      go_wp2
      go_ret2
      exact ⟨rfl, hbb2.out⟩
/-- The first sector may not be. -/
theorem batch_bad (e i : Int) (a : Option Addr) (c : Nat) (l : List (List UInt8)) (w : World) (hl : (stream l).length ≤ 1000000) (ha : TAt w a l) (hok : recsOk l) (hne : l ≠ []) (hbad : ∀ p, secOk e i p = false) :
    Calls Tryd.prog 34 #[.int .i64 e, .int .i64 i, .slice a l.length c] w fun en w' => en = .returned (.tuple #[.slice none 0 0, .bool false]) ∧ Below w.heap.size w w' := by
  have hS := bytesOf_ok hok
  have hSne := stream_ne hne
  obtain ⟨S, hSS⟩ : ∃ S, S = stream l := ⟨_, rfl⟩
  rw [← hSS] at hS hSne hl
  replace hS := Lib.hid hS
  have hemp : S.isEmpty = false := by cases S with | nil => exact absurd rfl hSne | cons _ _ => rfl
  replace hSS := Lib.hid hSS
  replace hbad := Lib.hid hbad
  obtain ⟨m, hm⟩ : ∃ m, m = min S.length 56 := ⟨_, rfl⟩
  have hmin : min (((mk S).size : Nat) : Int) 56 = (m : Int) := by rw [mk_size, hm]; omega
  have hx1 : (mk S).extract 0 m = mk (S.take 56) := by
    rw [mk_take, hm]
    by_cases c : S.length ≤ 56
    · rw [Nat.min_eq_left c, List.take_of_length_le (Nat.le_refl _), List.take_of_length_le c]
    · rw [Nat.min_eq_right (by omega)]
  have hm1 : (m : Int) ≤ ((mk S).size : Int) := by rw [mk_size]; omega
  have hm2 : m ≤ 56 := by omega
  have htl : (S.take 56).length ≤ 140737488351232 := by rw [List.length_take]; omega
  replace hm := Lib.hid hm
  clear hSne
  go_enter Tryd.func34, Tryd.ntmps34
  go_wp2_with fail
  refine (bytes_any a c l _ (by rw [← hSS.out]; omega) ha).mono ?_
  rintro en w1 ⟨rfl, hb1⟩
  rw [hS.out]
  replace hb1 := Lib.hid hb1
  clear ha
  go_wp2
  go_loopw [8, 9, 10, 1] (fun b v f x wr => b = .string (mk S) ∧ f = .bool true ∧ x = .int .i64 i ∧ wr = w1) (fun _ _ _ _ _ => 0)
  case atStart => exact ⟨rfl, rfl, rfl, rfl⟩
  case round =>
    obtain ⟨rfl, rfl, rfl, rfl⟩ := hrel
    go_wp2_with fail
    refine (put_no e i _ (S.take 56) _ htl (hbad.out _)).mono ?_
    rintro en w2 ⟨rfl, hb2⟩
    have hbb2 := Lib.hid (hb1.out.trans (hb2.mono hb1.out.size))
    clear hb2
    go_wp2
    go_ret2
    exact ⟨rfl, hbb2.out⟩
end Go.Proofs.YtofejnhnnmnfpaaDoor.Fr
/- Batch of package frame, whatever is asked for. No condition. -/
namespace Go.Proofs.YtofejnhnnmnfpaaDoor.Fr
set_option maxRecDepth 100000
open Go.RowKit

def batOk (e i : Int) (L : List (List UInt8)) : Bool := recsOkB L && !L.isEmpty && decide (1 ≤ e) && decide (e ≤ 4294967295) && decide (0 ≤ i) && decide (i + cnt L ≤ 65536)
def batD (e i : Int) (L : List (List UInt8)) : List (List UInt8) := if batOk e i L then secs e.toNat i.toNat true (stream L) else []
theorem batOk_iff {e i : Int} {L : List (List UInt8)} : batOk e i L = true ↔ recsOk L ∧ L ≠ [] ∧ 1 ≤ e ∧ e ≤ 4294967295 ∧ 0 ≤ i ∧ i + cnt L ≤ 65536 := by
  simp [batOk, recsOkB_iff, and_assoc]
theorem cnt_pos {L : List (List UInt8)} (h : L ≠ []) : 1 ≤ cnt L := by
  have := List.length_pos_iff.2 (stream_ne h)
  unfold cnt
  omega
theorem bytes_none {L : List (List UInt8)} (h : recsOkB L = false ∨ L = []) : bytesOf L = [] := by
  rcases h with h | h
  · rw [bytesOf, h]; rfl
  · rw [h]; rfl
theorem batch_all (e i : Int) (a : Option Addr) (c : Nat) (l : List (List UInt8)) (w : World) (hl : (stream l).length ≤ 1000000) (ha : TAt w a l) :
    Calls Tryd.prog 34 #[.int .i64 e, .int .i64 i, .slice a l.length c] w fun en w' => ∃ v, en = .returned (.tuple #[v, .bool (batOk e i l)]) ∧ w'.ownsRow w.heap.size 9 1 v (batD e i l).length (scells (batD e i l)) ∧ Below w.heap.size w w' := by
  have none_ : batOk e i l = false → ∀ w' : World, ∃ v : Value, Ending.returned (.tuple #[.slice none 0 0, .bool false]) = .returned (.tuple #[v, .bool (batOk e i l)]) ∧ w'.ownsRow w.heap.size 9 1 v (batD e i l).length (scells (batD e i l)) := fun h w' => by
    have hD : batD e i l = [] := by simp [batD, h]
    exact ⟨_, by rw [h], by rw [hD]; exact World.ownsRow_nil _ _ _ _⟩
  by_cases h : batOk e i l = true
  · obtain ⟨h1, h2, h3, h4, h5, h6⟩ := batOk_iff.1 h
    obtain ⟨e', rfl⟩ := Int.eq_ofNat_of_zero_le (show 0 ≤ e by omega)
    obtain ⟨i', rfl⟩ := Int.eq_ofNat_of_zero_le h5
    refine (batch_yes e' i' a c l w hl ha h1 h2 (by omega) (by omega) (by omega)).mono ?_
    rintro en w' ⟨v, rfl, ho, hb⟩
    refine ⟨v, by rw [h], ?_, hb⟩
    rw [batD, if_pos h, Int.toNat_natCast, Int.toNat_natCast]
    exact ho
  · have hf : batOk e i l = false := Bool.eq_false_iff.2 h
    have fin : ∀ (en : Ending) (w' : World), (en = .returned (.tuple #[.slice none 0 0, .bool false]) ∧ Below w.heap.size w w') → ∃ v : Value, en = .returned (.tuple #[v, .bool (batOk e i l)]) ∧ w'.ownsRow w.heap.size 9 1 v (batD e i l).length (scells (batD e i l)) ∧ Below w.heap.size w w' := fun en w' ⟨he, hb⟩ => by
      obtain ⟨v, q1, q2⟩ := none_ hf w'
      exact ⟨v, he.trans q1, q2, hb⟩
    by_cases h1 : recsOkB l = true ∧ l ≠ []
    · have hok := recsOkB_iff.1 h1.1
      by_cases h2 : 1 ≤ e ∧ e ≤ 4294967295 ∧ 0 ≤ i ∧ i ≤ 65535
      · obtain ⟨e', rfl⟩ := Int.eq_ofNat_of_zero_le (show 0 ≤ e by omega)
        obtain ⟨i', rfl⟩ := Int.eq_ofNat_of_zero_le (show 0 ≤ i by omega)
        refine (batch_over e' i' a c l w hl ha hok h1.2 (by omega) (by omega) (by omega) ?_).mono fin
        have : ¬ ((i' : Int) + cnt l ≤ 65536) := fun h6 => h (batOk_iff.2 ⟨hok, h1.2, by omega, by omega, by omega, h6⟩)
        omega
      · refine (batch_bad e i a c l w hl ha hok h1.2 (fun p => ?_)).mono fin
        rw [Bool.eq_false_iff]
        intro hs
        have := secOk_iff.1 hs
        exact h2 ⟨this.1, this.2.1, this.2.2.1, this.2.2.2.1⟩
    · refine (batch_none e i a c l w (by omega) ha (bytes_none ?_)).mono fin
      by_cases h3 : recsOkB l = true
      · exact .inr (Classical.byContradiction fun h4 => h1 ⟨h3, h4⟩)
      · exact .inl (Bool.eq_false_iff.2 h3)
end Go.Proofs.YtofejnhnnmnfpaaDoor.Fr
