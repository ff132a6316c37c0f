/- number and value of package frame. No condition. -/
import Derived.Test.YtofejnhnnmnfpaaDoorFPlain
import Derived.Test.YtofejnhnnmnfpaaDoorProg
namespace Go.Proofs.YtofejnhnnmnfpaaDoor.Fr
set_option maxRecDepth 100000
open Go.RowKit

theorem Tryd.infoU8 : (Tryd.prog.info? 5).map (fun i => (i.zero, i.size, i.bytes)) = some (some (.int .u8 0), 1, 1) := by kernel_rfl
theorem new_one (w : World) (a : Value) (b' : Nat) {t : TypeId} (h : b' = w.heap.size) : ∀ j u, [a][j]? = some u → (w.alloc (.cells #[a] t)).cell? ((⟨b', 0, none⟩ : Addr).add j) = some u := by
  intro j u hu
  subst h
  cases j with
  | zero => simp at hu; subst hu; exact cell_of (heap_alloc_new w _) rfl
  | succ j => simp at hu

theorem be_get (n x : Nat) : ∀ i, i < n → (be n x)[i]? = some (UInt8.ofNat (x / 256 ^ (n - 1 - i))) := by
  induction n with
  | zero => intro i h; omega
  | succ n ih =>
    intro i h
    cases i with
    | zero => rw [be]; rfl
    | succ i =>
      rw [be, List.getElem?_cons_succ, ih i (by omega)]
      congr 4
      omega
theorem be_take_len (n x k : Nat) (h : k ≤ n) : ((be n x).take (n - k)).length = n - k := by rw [List.length_take, be_length]; omega
theorem be_take (n x j : Nat) (h : j < n) : (be n x).take (n - j) = (be n x).take (n - (j + 1)) ++ [UInt8.ofNat (x / 256 ^ j)] := by
  rw [show n - j = (n - (j + 1)) + 1 by omega, List.take_add_one, be_get n x (n - (j + 1)) (by omega), show n - 1 - (n - (j + 1)) = j by omega]
  rfl
theorem grow_row {w wr w1 : World} {v : Value} {n : Nat} {xs : List Value} {o : Obj} (h : wr.ownsRow w.heap.size 5 1 v n xs) (hb : Below w.heap.size w wr) (hg : (wr.alloc o).grownBy w1 v.ownBlock) : Below w.heap.size w w1 :=
  (hb.alloc hb.size o).grown hg (by have := hb.size; simp; omega) (fun k e => (h.lt k e).1)

set_option maxHeartbeats 1600000 in
theorem number_any (x n : Nat) (w : World) (hn : n ≤ 4) : Calls Tryd.prog 90 #[.int .i64 x, .int .i64 n] w fun e w' => e = .returned (.string (mk (be n x))) ∧ Below w.heap.size w w' := by
  obtain ⟨i, hi, hz0, hz1, hz2⟩ := info_parts Tryd.infoU8
  go_enter Tryd.func90, Tryd.ntmps90
  go_wp2
  go_loopw [5, 1] (fun v c wr => ∃ k : Nat, k ≤ n ∧ c = .int .i64 ((k : Int) - 1) ∧ wr.ownsRow w.heap.size 5 1 v ((be n x).take (n - k)).length (bcells ((be n x).take (n - k))) ∧ Below w.heap.size w wr) (fun _ c _ => (intOf c + 1).toNat)
  case atStart => exact ⟨n, Nat.le_refl _, rfl, by rw [Nat.sub_self]; exact World.ownsRow_nil _ _ _ _, Below.refl _ _⟩
  case round =>
    obtain ⟨k, hk, rfl, ho, hb⟩ := hrel
    have hln := Lib.hid (be_take_len n x k hk)
    replace ho := Lib.hid ho
    replace hb := Lib.hid hb
    rcases (show k = 0 ∨ k = 1 ∨ k = 2 ∨ k = 3 ∨ k = 4 by omega) with rfl | rfl | rfl | rfl | rfl
    · have e : (be n x).take (n - 0) = be n x := List.take_of_length_le (by rw [be_length]; omega)
      rw [e] at ho
      have hcv := run_string_own (P := Tryd.prog) 29 9 Tryd.underlying29 Tryd.underlying5 Tryd.underlying9 ho.out
      obtain ⟨ua, ul, uc, rfl, rfl⟩ := own_form ho.out
      go_wp2
      go_ret
      exact ⟨rfl, hb.out⟩
    · have hw0 : IntKind.i64.wrap 0 = 0 := by decide
      have hbc : [Value.int .u8 (IntKind.u8.wrap ((x : Int)))] = bcells [UInt8.ofNat (x / 256 ^ 0)] := byte_cell _ _ (by omega)
      have hstep := be_take n x 0 (by omega)
      replace hstep := Lib.hid hstep
      replace hbc := Lib.hid hbc
      go_wp2_with (at_builtin; refine wpList_append_own' rfl (.tmp 12) (.tmp 18) 29 rfl w.heap.size 5 i (.int .u8 0) 1 1 Tryd.underlying29 hi hz0 hz1 hz2 rfl (by decide) _ _ _ rfl (ho.out.alloc _) ⟨wr.heap.size, 0, none⟩ 1 1 [.int .u8 (IntKind.u8.wrap ((x : Int)))] rfl rfl (new_one _ _ _ rfl) (by intro u hu; simp at hu; subst hu; rfl) (by rw [hln.out]; unfold maxLen; omega) (by rw [hln.out]; omega) (by have := hb.out.size; simp; omega) ?_; intro v' w1 hown' hgrow hrow; have hn1 := grow_row ho.out hb.out hgrow; rw [hbc.out, ← bcells_append, ← hstep.out] at hown'; have HO' := Lib.hid hown'; replace hn1 := Lib.hid hn1; clear hown' hgrow hrow)
      go_roundw
      case rel => exact ⟨0, by omega, by go_num, by have := HO'.out; rw [be_take_len n x 0 (by omega)]; rw [be_take_len n x 1 (by omega), show n - 1 + 1 = n - 0 by omega] at this; exact this, hn1.out⟩
      case measure => simp [intOf]
    · have hw0 : IntKind.i64.wrap 8 = 8 := by decide
      have hbc : [Value.int .u8 (IntKind.u8.wrap ((x : Int) / 256))] = bcells [UInt8.ofNat (x / 256 ^ 1)] := byte_cell _ _ (by omega)
      have hstep := be_take n x 1 (by omega)
      replace hstep := Lib.hid hstep
      replace hbc := Lib.hid hbc
      go_wp2_with (at_builtin; refine wpList_append_own' rfl (.tmp 12) (.tmp 18) 29 rfl w.heap.size 5 i (.int .u8 0) 1 1 Tryd.underlying29 hi hz0 hz1 hz2 rfl (by decide) _ _ _ rfl (ho.out.alloc _) ⟨wr.heap.size, 0, none⟩ 1 1 [.int .u8 (IntKind.u8.wrap ((x : Int) / 256))] rfl rfl (new_one _ _ _ rfl) (by intro u hu; simp at hu; subst hu; rfl) (by rw [hln.out]; unfold maxLen; omega) (by rw [hln.out]; omega) (by have := hb.out.size; simp; omega) ?_; intro v' w1 hown' hgrow hrow; have hn1 := grow_row ho.out hb.out hgrow; rw [hbc.out, ← bcells_append, ← hstep.out] at hown'; have HO' := Lib.hid hown'; replace hn1 := Lib.hid hn1; clear hown' hgrow hrow)
      go_roundw
      case rel => exact ⟨1, by omega, by go_num, by have := HO'.out; rw [be_take_len n x 1 (by omega)]; rw [be_take_len n x 2 (by omega), show n - 2 + 1 = n - 1 by omega] at this; exact this, hn1.out⟩
      case measure => simp [intOf]
    · have hw0 : IntKind.i64.wrap 16 = 16 := by decide
      have hbc : [Value.int .u8 (IntKind.u8.wrap ((x : Int) / 65536))] = bcells [UInt8.ofNat (x / 256 ^ 2)] := byte_cell _ _ (by omega)
      have hstep := be_take n x 2 (by omega)
      replace hstep := Lib.hid hstep
      replace hbc := Lib.hid hbc
      go_wp2_with (at_builtin; refine wpList_append_own' rfl (.tmp 12) (.tmp 18) 29 rfl w.heap.size 5 i (.int .u8 0) 1 1 Tryd.underlying29 hi hz0 hz1 hz2 rfl (by decide) _ _ _ rfl (ho.out.alloc _) ⟨wr.heap.size, 0, none⟩ 1 1 [.int .u8 (IntKind.u8.wrap ((x : Int) / 65536))] rfl rfl (new_one _ _ _ rfl) (by intro u hu; simp at hu; subst hu; rfl) (by rw [hln.out]; unfold maxLen; omega) (by rw [hln.out]; omega) (by have := hb.out.size; simp; omega) ?_; intro v' w1 hown' hgrow hrow; have hn1 := grow_row ho.out hb.out hgrow; rw [hbc.out, ← bcells_append, ← hstep.out] at hown'; have HO' := Lib.hid hown'; replace hn1 := Lib.hid hn1; clear hown' hgrow hrow)
      go_roundw
      case rel => exact ⟨2, by omega, by go_num, by have := HO'.out; rw [be_take_len n x 2 (by omega)]; rw [be_take_len n x 3 (by omega), show n - 3 + 1 = n - 2 by omega] at this; exact this, hn1.out⟩
      case measure => simp [intOf]
    · have hw0 : IntKind.i64.wrap 24 = 24 := by decide
      have hbc : [Value.int .u8 (IntKind.u8.wrap ((x : Int) / 16777216))] = bcells [UInt8.ofNat (x / 256 ^ 3)] := byte_cell _ _ (by omega)
      have hstep := be_take n x 3 (by omega)
      replace hstep := Lib.hid hstep
      replace hbc := Lib.hid hbc
      go_wp2_with (at_builtin; refine wpList_append_own' rfl (.tmp 12) (.tmp 18) 29 rfl w.heap.size 5 i (.int .u8 0) 1 1 Tryd.underlying29 hi hz0 hz1 hz2 rfl (by decide) _ _ _ rfl (ho.out.alloc _) ⟨wr.heap.size, 0, none⟩ 1 1 [.int .u8 (IntKind.u8.wrap ((x : Int) / 16777216))] rfl rfl (new_one _ _ _ rfl) (by intro u hu; simp at hu; subst hu; rfl) (by rw [hln.out]; unfold maxLen; omega) (by rw [hln.out]; omega) (by have := hb.out.size; simp; omega) ?_; intro v' w1 hown' hgrow hrow; have hn1 := grow_row ho.out hb.out hgrow; rw [hbc.out, ← bcells_append, ← hstep.out] at hown'; have HO' := Lib.hid hown'; replace hn1 := Lib.hid hn1; clear hown' hgrow hrow)
      go_roundw
      case rel => exact ⟨3, by omega, by go_num, by have := HO'.out; rw [be_take_len n x 3 (by omega)]; rw [be_take_len n x 4 (by omega), show n - 4 + 1 = n - 3 by omega] at this; exact this, hn1.out⟩
      case measure => simp [intOf]

theorem value_any (l : List UInt8) (w : World) (hl : l.length ≤ 4) : Calls Tryd.prog 79 #[.string (mk l)] w fun e w' => e = .returned (.int .i64 (val l)) ∧ w = w' := by
  have hsz := mk_size l
  have H := Lib.hid hsz
  have hle : (mk l).size ≤ 4 := by omega
  clear hsz
  go_enter Tryd.func79, Tryd.ntmps79
  go_wp2
  go_loop [3, 7] (fun v i => ∃ k : Nat, k ≤ l.length ∧ i = .int .i64 k ∧ v = .int .i64 (val (l.take k))) (fun _ i => l.length - (intOf i).toNat)
  case atStart => exact ⟨0, Nat.zero_le _, rfl, rfl⟩
  case round =>
    obtain ⟨k, hk, rfl, rfl⟩ := hrel
    obtain ⟨v, hv⟩ : ∃ v, v = val (l.take k) := ⟨_, rfl⟩
    have hb : k < (mk l).size → v < 16777216 := fun hlt => by rw [hv]; exact val_take_lt _ _ (by omega)
    have hs : ∀ hlt : k < (mk l).size, val (l.take (k + 1)) = v * 256 + ((mk l)[k]).toNat := fun hlt => by rw [hv]; exact val_take _ _ hlt
    rw [← hv]
    have HV := Lib.hid hv
    have HS := Lib.hid hs
    clear hv hs
    by_cases hlt : k < (mk l).size
    · have hb' := hb hlt
      clear hb
      go_wp2
      go_round
      case rel =>
        refine ⟨k + 1, by have := H.out; omega, by go_num, ?_⟩
        rw [HS.out hlt]
        have h255 := ((mk l)[k]).toNat_lt
        rw [IntWalk.wrap64_in _ (by omega), join8 _ _ (by omega) (by omega) (by omega) (by omega)]
        simp
      case measure => simp [intOf]; have := H.out; omega
    · go_wp2
      go_ret
      have e : k = l.length := by have := H.out; omega
      subst e
      rw [HV.out, List.take_length]
      exact ⟨rfl, rfl⟩
end Go.Proofs.YtofejnhnnmnfpaaDoor.Fr
