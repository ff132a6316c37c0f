/- Bytes, numbers in bytes: plain facts. No condition. -/
import Derived.Test.YtofejnhnnmnfpaaDoorMk
import Derived.Test.YtofejnhnnmnfpaaDoorBase
import Derived.Lib.Strings
import Derived.Outline
import Derived.Handy
import Derived.Test.YtofejnhnnmnfpaaDoorProg
namespace Go.Proofs.YtofejnhnnmnfpaaDoor.Fr
set_option maxRecDepth 100000
open Go.RowKit

theorem mk_size (l : List UInt8) : (mk l).size = l.length := by simp [mk, ByteArray.size]
theorem mk_list (l : List UInt8) : (mk l).data.toList = l := by simp [mk]
theorem mk_of (s : ByteArray) : mk s.data.toList = s := by simp [mk]
@[go_sem] theorem mk_toList (l : List UInt8) : (mk l).toList = l := by rw [Lib.toList_data, mk_list]
theorem mk_take (l : List UInt8) (n : Nat) : (mk l).extract 0 n = mk (l.take n) := by
  apply ByteArray.ext
  apply Array.ext'
  simp [mk]
theorem mk_drop (l : List UInt8) (n : Nat) (_h : n ≤ l.length) : (mk l).extract n l.length = mk (l.drop n) := by
  apply ByteArray.ext
  apply Array.ext'
  simp [mk]
  rw [List.take_of_length_le (by simp)]
theorem mk_append (a b : List UInt8) : mk a ++ mk b = mk (a ++ b) := by
  apply ByteArray.ext
  apply Array.ext'
  simp [mk]
theorem mk_inj {a b : List UInt8} (h : mk a = mk b) : a = b := by rw [← mk_list a, h, mk_list]
theorem mk_get (b : List UInt8) (i : Nat) (h : i < (mk b).size) : (mk b)[i] = b.getD i 0 := by
  have h' : i < b.length := by rw [← mk_size]; exact h
  rw [List.getD, List.getElem?_eq_getElem h']
  rfl
theorem mk_ext (b : List UInt8) (i j : Nat) : (mk b).extract i j = mk ((b.drop i).take (j - i)) := by
  apply ByteArray.ext
  apply Array.ext'
  simp [mk, List.take_drop]
/-- The number of big bytes. -/
def val (l : List UInt8) : Nat := l.foldl (fun v b => v * 256 + b.toNat) 0

theorem join8 (v b : Int) (h0 : 0 ≤ v) (h1 : v < 16777216) (h2 : 0 ≤ b) (h3 : b < 256) : bits .or .i64 (v * 256) b = v * 256 + b :=
  bits_join .i64 62 (by decide) (fun n a b => by rw [IntKind.wrap_i64]; omega) 8 (v * 256) b (by omega) (by omega) (by omega) h2 (by omega) (by omega)
theorem val_snoc (l : List UInt8) (b : UInt8) : val (l ++ [b]) = val l * 256 + b.toNat := by simp [val]
theorem val_lt' (l : List UInt8) : ∀ v, l.foldl (fun v b => v * 256 + b.toNat) v < (v + 1) * 256 ^ l.length := by
  induction l with
  | nil => intro v; simp
  | cons b l ih =>
    intro v
    have h := ih (v * 256 + b.toNat)
    have hb := b.toNat_lt
    have h2 : (v * 256 + b.toNat + 1) * 256 ^ l.length ≤ (v + 1) * 256 * 256 ^ l.length := Nat.mul_le_mul_right _ (by omega)
    rw [List.foldl_cons, List.length_cons, Nat.pow_succ, Nat.mul_comm (256 ^ l.length) 256, ← Nat.mul_assoc]
    omega
theorem val_lt (l : List UInt8) : val l < 256 ^ l.length := by have := val_lt' l 0; simpa [val] using this
theorem val_take (l : List UInt8) (k : Nat) (h : k < (mk l).size) : val (l.take (k + 1)) = val (l.take k) * 256 + ((mk l)[k]).toNat := by
  have h' : k < l.length := by rw [← mk_size]; exact h
  rw [List.take_succ_eq_append_getElem h', val_snoc]
  congr 2
theorem val_take_lt (l : List UInt8) (k : Nat) (h : k ≤ 3) : val (l.take k) < 16777216 := by
  have h1 := val_lt (l.take k)
  have h2 : 256 ^ (l.take k).length ≤ 256 ^ 3 := Nat.pow_le_pow_right (by omega) (by simp; omega)
  omega

/-- A number in so many bytes, the most significant one first. -/
def be : Nat → Nat → List UInt8
  | 0, _ => []
  | n + 1, x => UInt8.ofNat (x / 256 ^ n) :: be n x
theorem byte_cell (y : Int) (n : Nat) (h : y % 256 = ((n % 256 : Nat) : Int)) : [Value.int .u8 (IntKind.u8.wrap y)] = bcells [UInt8.ofNat n] := by
  simp only [bcells, List.map_cons, List.map_nil, IntKind.wrap_u8, UInt8.toNat_ofNat']
  rw [h]

theorem be_length : ∀ n x, (be n x).length = n
  | 0, _ => rfl
  | n + 1, x => by rw [be, List.length_cons, be_length n x]
theorem val_be2 (x : Nat) (h : x < 65536) : val (be 2 x) = x := by
  simp [val, be]; omega
theorem val_be4 (x : Nat) (h : x < 4294967296) : val (be 4 x) = x := by
  simp [val, be]; omega
end Go.Proofs.YtofejnhnnmnfpaaDoor.Fr
/- number and value of package frame. No condition. -/
namespace Go.Proofs.YtofejnhnnmnfpaaDoor.Fr
set_option maxRecDepth 100000
open Go.RowKit

theorem Tryd.infoU8 : (Tryd.prog.info? 5).map (fun i => (i.zero, i.size, i.bytes)) = some (some (.int .u8 0), 1, 1) := by kernel_rfl
theorem new_one (w : World) (a : Value) (b' : Nat) {t : TypeId} (h : b' = w.heap.size) : ∀ j u, [a][j]? = some u → (w.alloc (.cells #[a] t)).cell? ((⟨b', 0, none⟩ : Addr).add j) = some u := by
  intro j u hu
  subst h
  cases j with
  | zero => simp at hu; subst hu; exact cell_of (heap_alloc_new w _) rfl
  | succ j => simp at hu

theorem be_get (n x : Nat) : ∀ i, i < n → (be n x)[i]? = some (UInt8.ofNat (x / 256 ^ (n - 1 - i))) := by
  induction n with
  | zero => intro i h; omega
  | succ n ih =>
    intro i h
    cases i with
    | zero => rw [be]; rfl
    | succ i =>
      rw [be, List.getElem?_cons_succ, ih i (by omega)]
      congr 4
      omega
theorem be_take_len (n x k : Nat) (h : k ≤ n) : ((be n x).take (n - k)).length = n - k := by rw [List.length_take, be_length]; omega
theorem be_take (n x j : Nat) (h : j < n) : (be n x).take (n - j) = (be n x).take (n - (j + 1)) ++ [UInt8.ofNat (x / 256 ^ j)] := by
  rw [show n - j = (n - (j + 1)) + 1 by omega, List.take_add_one, be_get n x (n - (j + 1)) (by omega), show n - 1 - (n - (j + 1)) = j by omega]
  rfl
theorem grow_row {w wr w1 : World} {v : Value} {n : Nat} {xs : List Value} {o : Obj} (h : wr.ownsRow w.heap.size 5 1 v n xs) (hb : Below w.heap.size w wr) (hg : (wr.alloc o).grownBy w1 v.ownBlock) : Below w.heap.size w w1 :=
  (hb.alloc hb.size o).grown hg (by have := hb.size; simp; omega) (fun k e => (h.lt k e).1)

set_option maxHeartbeats 1600000 in
theorem number_any (x n : Nat) (w : World) (hn : n ≤ 4) : Calls Tryd.prog 90 #[.int .i64 x, .int .i64 n] w fun e w' => e = .returned (.string (mk (be n x))) ∧ Below w.heap.size w w' := by
  obtain ⟨i, hi, hz0, hz1, hz2⟩ := info_parts Tryd.infoU8
  go_enter Tryd.func90, Tryd.ntmps90
  go_wp2
  go_loopw [5, 1] (fun v c wr => ∃ k : Nat, k ≤ n ∧ c = .int .i64 ((k : Int) - 1) ∧ wr.ownsRow w.heap.size 5 1 v ((be n x).take (n - k)).length (bcells ((be n x).take (n - k))) ∧ Below w.heap.size w wr) (fun _ c _ => (intOf c + 1).toNat)
  case atStart => exact ⟨n, Nat.le_refl _, rfl, by rw [Nat.sub_self]; exact World.ownsRow_nil _ _ _ _, Below.refl _ _⟩
  case round =>
    obtain ⟨k, hk, rfl, ho, hb⟩ := hrel
    have hln := Lib.hid (be_take_len n x k hk)
    replace ho := Lib.hid ho
    replace hb := Lib.hid hb
    rcases (show k = 0 ∨ k = 1 ∨ k = 2 ∨ k = 3 ∨ k = 4 by omega) with rfl | rfl | rfl | rfl | rfl
    · have e : (be n x).take (n - 0) = be n x := List.take_of_length_le (by rw [be_length]; omega)
      rw [e] at ho
      have hcv := run_string_own (P := Tryd.prog) 29 9 Tryd.underlying29 Tryd.underlying5 Tryd.underlying9 ho.out
      obtain ⟨ua, ul, uc, rfl, rfl⟩ := own_form ho.out
      go_wp2
      go_ret
      exact ⟨rfl, hb.out⟩
    · have hw0 : IntKind.i64.wrap 0 = 0 := by decide
      have hbc : [Value.int .u8 (IntKind.u8.wrap ((x : Int)))] = bcells [UInt8.ofNat (x / 256 ^ 0)] := byte_cell _ _ (by omega)
      have hstep := be_take n x 0 (by omega)
      replace hstep := Lib.hid hstep
      replace hbc := Lib.hid hbc
      go_wp2_with (at_builtin; refine wpList_append_own' rfl (.tmp 12) (.tmp 18) 29 rfl w.heap.size 5 i (.int .u8 0) 1 1 Tryd.underlying29 hi hz0 hz1 hz2 rfl (by decide) _ _ _ rfl (ho.out.alloc _) ⟨wr.heap.size, 0, none⟩ 1 1 [.int .u8 (IntKind.u8.wrap ((x : Int)))] rfl rfl (new_one _ _ _ rfl) (by intro u hu; simp at hu; subst hu; rfl) (by rw [hln.out]; unfold maxLen; omega) (by rw [hln.out]; omega) (by have := hb.out.size; simp; omega) ?_; intro v' w1 hown' hgrow hrow; have hn1 := grow_row ho.out hb.out hgrow; rw [hbc.out, ← bcells_append, ← hstep.out] at hown'; have HO' := Lib.hid hown'; replace hn1 := Lib.hid hn1; clear hown' hgrow hrow)
      go_roundw
      case rel => exact ⟨0, by omega, by go_num, by have := HO'.out; rw [be_take_len n x 0 (by omega)]; rw [be_take_len n x 1 (by omega), show n - 1 + 1 = n - 0 by omega] at this; exact this, hn1.out⟩
      case measure => simp [intOf]
    · have hw0 : IntKind.i64.wrap 8 = 8 := by decide
      have hbc : [Value.int .u8 (IntKind.u8.wrap ((x : Int) / 256))] = bcells [UInt8.ofNat (x / 256 ^ 1)] := byte_cell _ _ (by omega)
      have hstep := be_take n x 1 (by omega)
      replace hstep := Lib.hid hstep
      replace hbc := Lib.hid hbc
      go_wp2_with (at_builtin; refine wpList_append_own' rfl (.tmp 12) (.tmp 18) 29 rfl w.heap.size 5 i (.int .u8 0) 1 1 Tryd.underlying29 hi hz0 hz1 hz2 rfl (by decide) _ _ _ rfl (ho.out.alloc _) ⟨wr.heap.size, 0, none⟩ 1 1 [.int .u8 (IntKind.u8.wrap ((x : Int) / 256))] rfl rfl (new_one _ _ _ rfl) (by intro u hu; simp at hu; subst hu; rfl) (by rw [hln.out]; unfold maxLen; omega) (by rw [hln.out]; omega) (by have := hb.out.size; simp; omega) ?_; intro v' w1 hown' hgrow hrow; have hn1 := grow_row ho.out hb.out hgrow; rw [hbc.out, ← bcells_append, ← hstep.out] at hown'; have HO' := Lib.hid hown'; replace hn1 := Lib.hid hn1; clear hown' hgrow hrow)
      go_roundw
      case rel => exact ⟨1, by omega, by go_num, by have := HO'.out; rw [be_take_len n x 1 (by omega)]; rw [be_take_len n x 2 (by omega), show n - 2 + 1 = n - 1 by omega] at this; exact this, hn1.out⟩
      case measure => simp [intOf]
    · have hw0 : IntKind.i64.wrap 16 = 16 := by decide
      have hbc : [Value.int .u8 (IntKind.u8.wrap ((x : Int) / 65536))] = bcells [UInt8.ofNat (x / 256 ^ 2)] := byte_cell _ _ (by omega)
      have hstep := be_take n x 2 (by omega)
      replace hstep := Lib.hid hstep
      replace hbc := Lib.hid hbc
      go_wp2_with (at_builtin; refine wpList_append_own' rfl (.tmp 12) (.tmp 18) 29 rfl w.heap.size 5 i (.int .u8 0) 1 1 Tryd.underlying29 hi hz0 hz1 hz2 rfl (by decide) _ _ _ rfl (ho.out.alloc _) ⟨wr.heap.size, 0, none⟩ 1 1 [.int .u8 (IntKind.u8.wrap ((x : Int) / 65536))] rfl rfl (new_one _ _ _ rfl) (by intro u hu; simp at hu; subst hu; rfl) (by rw [hln.out]; unfold maxLen; omega) (by rw [hln.out]; omega) (by have := hb.out.size; simp; omega) ?_; intro v' w1 hown' hgrow hrow; have hn1 := grow_row ho.out hb.out hgrow; rw [hbc.out, ← bcells_append, ← hstep.out] at hown'; have HO' := Lib.hid hown'; replace hn1 := Lib.hid hn1; clear hown' hgrow hrow)
      go_roundw
      case rel => exact ⟨2, by omega, by go_num, by have := HO'.out; rw [be_take_len n x 2 (by omega)]; rw [be_take_len n x 3 (by omega), show n - 3 + 1 = n - 2 by omega] at this; exact this, hn1.out⟩
      case measure => simp [intOf]
    · have hw0 : IntKind.i64.wrap 24 = 24 := by decide
      have hbc : [Value.int .u8 (IntKind.u8.wrap ((x : Int) / 16777216))] = bcells [UInt8.ofNat (x / 256 ^ 3)] := byte_cell _ _ (by omega)
      have hstep := be_take n x 3 (by omega)
      replace hstep := Lib.hid hstep
      replace hbc := Lib.hid hbc
      go_wp2_with (at_builtin; refine wpList_append_own' rfl (.tmp 12) (.tmp 18) 29 rfl w.heap.size 5 i (.int .u8 0) 1 1 Tryd.underlying29 hi hz0 hz1 hz2 rfl (by decide) _ _ _ rfl (ho.out.alloc _) ⟨wr.heap.size, 0, none⟩ 1 1 [.int .u8 (IntKind.u8.wrap ((x : Int) / 16777216))] rfl rfl (new_one _ _ _ rfl) (by intro u hu; simp at hu; subst hu; rfl) (by rw [hln.out]; unfold maxLen; omega) (by rw [hln.out]; omega) (by have := hb.out.size; simp; omega) ?_; intro v' w1 hown' hgrow hrow; have hn1 := grow_row ho.out hb.out hgrow; rw [hbc.out, ← bcells_append, ← hstep.out] at hown'; have HO' := Lib.hid hown'; replace hn1 := Lib.hid hn1; clear hown' hgrow hrow)
      go_roundw
      case rel => exact ⟨3, by omega, by go_num, by have := HO'.out; rw [be_take_len n x 3 (by omega)]; rw [be_take_len n x 4 (by omega), show n - 4 + 1 = n - 3 by omega] at this; exact this, hn1.out⟩
      case measure => simp [intOf]

theorem value_any (l : List UInt8) (w : World) (hl : l.length ≤ 4) : Calls Tryd.prog 79 #[.string (mk l)] w fun e w' => e = .returned (.int .i64 (val l)) ∧ w = w' := by
  have hsz := mk_size l
  have H := Lib.hid hsz
  have hle : (mk l).size ≤ 4 := by omega
  clear hsz
  go_enter Tryd.func79, Tryd.ntmps79
  go_wp2
  go_loop [3, 7] (fun v i => ∃ k : Nat, k ≤ l.length ∧ i = .int .i64 k ∧ v = .int .i64 (val (l.take k))) (fun _ i => l.length - (intOf i).toNat)
  case atStart => exact ⟨0, Nat.zero_le _, rfl, rfl⟩
  case round =>
    obtain ⟨k, hk, rfl, rfl⟩ := hrel
    obtain ⟨v, hv⟩ : ∃ v, v = val (l.take k) := ⟨_, rfl⟩
    have hb : k < (mk l).size → v < 16777216 := fun hlt => by rw [hv]; exact val_take_lt _ _ (by omega)
    have hs : ∀ hlt : k < (mk l).size, val (l.take (k + 1)) = v * 256 + ((mk l)[k]).toNat := fun hlt => by rw [hv]; exact val_take _ _ hlt
    rw [← hv]
    have HV := Lib.hid hv
    have HS := Lib.hid hs
    clear hv hs
    by_cases hlt : k < (mk l).size
    · have hb' := hb hlt
      clear hb
      go_wp2
      go_round
      case rel =>
        refine ⟨k + 1, by have := H.out; omega, by go_num, ?_⟩
        rw [HS.out hlt]
        have h255 := ((mk l)[k]).toNat_lt
        rw [IntWalk.wrap64_in _ (by omega), join8 _ _ (by omega) (by omega) (by omega) (by omega)]
        simp
      case measure => simp [intOf]; have := H.out; omega
    · go_wp2
      go_ret
      have e : k = l.length := by have := H.out; omega
      subst e
      rw [HV.out, List.take_length]
      exact ⟨rfl, rfl⟩
end Go.Proofs.YtofejnhnnmnfpaaDoor.Fr
/- Sectors, records in a stream of bytes, batches, what is read of sectors: plain facts. No condition. -/
namespace Go.Proofs.YtofejnhnnmnfpaaDoor.Fr
set_option maxRecDepth 100000
open Go.RowKit

/-- A sector. -/
structure Sec where
  epoch : Nat
  index : Nat
  fresh : Bool
  pay : List UInt8
deriving DecidableEq
def secOk (e i : Int) (p : List UInt8) : Bool := decide (1 ≤ e) && decide (e ≤ 4294967295) && decide (0 ≤ i) && decide (i ≤ 65535) && decide (1 ≤ p.length) && decide (p.length ≤ 56)
theorem secOk_iff {e i : Int} {p : List UInt8} : secOk e i p = true ↔ 1 ≤ e ∧ e ≤ 4294967295 ∧ 0 ≤ i ∧ i ≤ 65535 ∧ 1 ≤ p.length ∧ p.length ≤ 56 := by
  simp [secOk, and_assoc]
def kindOf (f : Bool) : UInt8 := if f then 2 else 1
def enc (e i : Nat) (f : Bool) (p : List UInt8) : List UInt8 := be 4 e ++ be 2 i ++ [kindOf f, UInt8.ofNat p.length] ++ p ++ List.replicate (56 - p.length) 0
theorem enc_length {e i : Nat} {f : Bool} {p : List UInt8} (h : p.length ≤ 56) : (enc e i f p).length = 64 := by
  simp [enc, be_length]; omega
def secOf (b : List UInt8) : Sec := { epoch := val (b.take 4), index := val ((b.drop 4).take 2), fresh := b.getD 6 0 == 2, pay := (b.drop 8).take (b.getD 7 0).toNat }
def dec (b : List UInt8) : Option Sec :=
  if b.length = 64 ∧ (b.getD 7 0).toNat ≤ 56 ∧ secOk (secOf b).epoch (secOf b).index (secOf b).pay = true ∧ enc (secOf b).epoch (secOf b).index (secOf b).fresh (secOf b).pay = b then some (secOf b) else none

theorem secOf_enc {e i : Nat} {f : Bool} {p : List UInt8} (he : e < 4294967296) (hi : i < 65536) (hp : p.length ≤ 56) : secOf (enc e i f p) = ⟨e, i, f, p⟩ := by
  have h1 : (enc e i f p).take 4 = be 4 e := by
    simp [enc, be_length]
  have h2 : ((enc e i f p).drop 4).take 2 = be 2 i := by
    simp [enc, be_length]
  have h6 : (enc e i f p).getD 6 0 = kindOf f := by
    simp [enc, List.getD, List.getElem?_append, be_length]
  have h7 : (enc e i f p).getD 7 0 = UInt8.ofNat p.length := by
    simp [enc, List.getD, List.getElem?_append, be_length]
  have h8 : (enc e i f p).drop 8 = p ++ List.replicate (56 - p.length) 0 := by
    rw [enc, List.append_assoc, List.drop_append, List.drop_of_length_le (by simp [be_length]), List.nil_append]
    simp [be_length]
  have hn : (UInt8.ofNat p.length).toNat = p.length := by rw [UInt8.toNat_ofNat']; omega
  rw [secOf, h1, h2, h6, h7, h8, hn, val_be4 e he, val_be2 i hi, List.take_left']
  · cases f <;> rfl
  · rfl
theorem dec_enc {e i : Nat} {f : Bool} {p : List UInt8} (h : secOk e i p = true) : dec (enc e i f p) = some ⟨e, i, f, p⟩ := by
  obtain ⟨h1, h2, h3, h4, h5, h6⟩ := secOk_iff.1 h
  have hs := secOf_enc (e := e) (i := i) (f := f) (p := p) (by omega) (by omega) h6
  have h7 : (enc e i f p).getD 7 0 = UInt8.ofNat p.length := by
    simp [enc, List.getD, List.getElem?_append, be_length]
  rw [dec, hs, if_pos ⟨enc_length h6, by rw [h7, UInt8.toNat_ofNat']; omega, h, rfl⟩]
theorem dec_some {b : List UInt8} {s : Sec} (h : dec b = some s) : secOk s.epoch s.index s.pay = true ∧ enc s.epoch s.index s.fresh s.pay = b ∧ b.length = 64 := by
  unfold dec at h
  split at h
  · rename_i c
    cases h
    exact ⟨c.2.2.1, c.2.2.2, c.1⟩
  · cases h
theorem dec_zeros : dec (List.replicate 64 0) = none := by decide

/-- Records in a stream: those that are whole, what is left, whether it may be read on. -/
def drain (b : List UInt8) : List (List UInt8) × List UInt8 × Bool :=
  if h : b.length < 2 then ([], b, true)
  else if val (b.take 2) = 0 then ([], b, false)
  else if b.length < 2 + val (b.take 2) then ([], b, true)
  else
    let k := val (b.take 2)
    let r := drain (b.drop (2 + k))
    ((b.drop 2).take k :: r.1, r.2.1, r.2.2)
termination_by b.length
decreasing_by simp; omega

theorem drain_short {b : List UInt8} (h : b.length < 2) : drain b = ([], b, true) := by rw [drain, dif_pos h]
theorem drain_dead {b : List UInt8} (h : 2 ≤ b.length) (h0 : val (b.take 2) = 0) : drain b = ([], b, false) := by rw [drain, dif_neg (by omega), if_pos h0]
theorem drain_part {b : List UInt8} (h : 2 ≤ b.length) (h0 : val (b.take 2) ≠ 0) (hl : b.length < 2 + val (b.take 2)) : drain b = ([], b, true) := by rw [drain, dif_neg (by omega), if_neg h0, if_pos hl]
theorem drain_more {b : List UInt8} (h : 2 ≤ b.length) (h0 : val (b.take 2) ≠ 0) (hl : 2 + val (b.take 2) ≤ b.length) :
    drain b = ((b.drop 2).take (val (b.take 2)) :: (drain (b.drop (2 + val (b.take 2)))).1, (drain (b.drop (2 + val (b.take 2)))).2.1, (drain (b.drop (2 + val (b.take 2)))).2.2) := by
  rw [drain, dif_neg (by omega), if_neg h0, if_neg (by omega)]

/-- By cases, by how much is left. -/
theorem drain_cases {P : List UInt8 → Prop} (b : List UInt8) (h1 : ∀ b, b.length < 2 → P b) (h2 : ∀ b, 2 ≤ b.length → val (b.take 2) = 0 → P b) (h3 : ∀ b, 2 ≤ b.length → val (b.take 2) ≠ 0 → b.length < 2 + val (b.take 2) → P b)
    (h4 : ∀ b, 2 ≤ b.length → val (b.take 2) ≠ 0 → 2 + val (b.take 2) ≤ b.length → P (b.drop (2 + val (b.take 2))) → P b) : P b := by
  have H : ∀ n (b : List UInt8), b.length ≤ n → P b := by
    intro n
    induction n with
    | zero => intro b hb; exact h1 b (by omega)
    | succ n ih =>
      intro b hb
      by_cases c1 : b.length < 2
      · exact h1 b c1
      by_cases c2 : val (b.take 2) = 0
      · exact h2 b (by omega) c2
      by_cases c3 : b.length < 2 + val (b.take 2)
      · exact h3 b (by omega) c2 c3
      · exact h4 b (by omega) c2 (by omega) (ih _ (by simp; omega))
  exact H b.length b (Nat.le_refl _)
theorem take2_append {b c : List UInt8} (h : 2 ≤ b.length) : (b ++ c).take 2 = b.take 2 := List.take_append_of_le_length h
/-- What is left is what was there, where nothing was read. -/
theorem drain_none {b : List UInt8} (h : (drain b).1 = []) : (drain b).2.1 = b := by
  by_cases c1 : b.length < 2
  · rw [drain_short c1]
  by_cases c2 : val (b.take 2) = 0
  · rw [drain_dead (by omega) c2]
  by_cases c3 : b.length < 2 + val (b.take 2)
  · rw [drain_part (by omega) c2 c3]
  · rw [drain_more (by omega) c2 (by omega)] at h
    cases h
/-- Read in two parts. -/
theorem drain_append (b c : List UInt8) (h : (drain b).2.2 = true) :
    drain (b ++ c) = ((drain b).1 ++ (drain ((drain b).2.1 ++ c)).1, (drain ((drain b).2.1 ++ c)).2.1, (drain ((drain b).2.1 ++ c)).2.2) := by
  revert h
  refine drain_cases (P := fun b => (drain b).2.2 = true → drain (b ++ c) = ((drain b).1 ++ (drain ((drain b).2.1 ++ c)).1, (drain ((drain b).2.1 ++ c)).2.1, (drain ((drain b).2.1 ++ c)).2.2)) b ?_ ?_ ?_ ?_
  · intro b h _
    rw [drain_short h]
    rfl
  · intro b h h0 ho
    rw [drain_dead h h0] at ho
    cases ho
  · intro b h h0 hl _
    rw [drain_part h h0 hl]
    rfl
  · intro b h h0 hl ih ho
    rw [drain_more h h0 hl] at ho ⊢
    have hh := ih ho
    have e2 := take2_append (c := c) h
    have ed : (b ++ c).drop (2 + val (b.take 2)) = b.drop (2 + val (b.take 2)) ++ c := List.drop_append_of_le_length hl
    rw [drain_more (b := b ++ c) (by simp; omega) (by rw [e2]; exact h0) (by rw [e2]; simp; omega), e2, ed, hh]
    have e3 : ((b ++ c).drop 2).take (val (b.take 2)) = (b.drop 2).take (val (b.take 2)) := by
      rw [List.drop_append_of_le_length h, List.take_append_of_le_length (by simp; omega)]
    rw [e3]
    rfl
/-- Once dead it stays so. -/
theorem drain_closed (b c : List UInt8) (h : (drain b).2.2 = false) : (drain (b ++ c)).1 = (drain b).1 ∧ (drain (b ++ c)).2.2 = false := by
  revert h
  refine drain_cases (P := fun b => (drain b).2.2 = false → (drain (b ++ c)).1 = (drain b).1 ∧ (drain (b ++ c)).2.2 = false) b ?_ ?_ ?_ ?_
  · intro b h ho
    rw [drain_short h] at ho
    cases ho
  · intro b h h0 _
    rw [drain_dead h h0, drain_dead (b := b ++ c) (by simp; omega) (by rw [take2_append h]; exact h0)]
    exact ⟨rfl, rfl⟩
  · intro b h h0 hl ho
    rw [drain_part h h0 hl] at ho
    cases ho
  · intro b h h0 hl ih ho
    rw [drain_more h h0 hl] at ho ⊢
    have hh := ih ho
    have e2 := take2_append (c := c) h
    have ed : (b ++ c).drop (2 + val (b.take 2)) = b.drop (2 + val (b.take 2)) ++ c := List.drop_append_of_le_length hl
    rw [drain_more (b := b ++ c) (by simp; omega) (by rw [e2]; exact h0) (by rw [e2]; simp; omega), e2, ed]
    have e3 : ((b ++ c).drop 2).take (val (b.take 2)) = (b.drop 2).take (val (b.take 2)) := by
      rw [List.drop_append_of_le_length h, List.take_append_of_le_length (by simp; omega)]
    exact ⟨by rw [e3]; simp only; rw [hh.1], hh.2⟩

/-- The stream of records. -/
def stream (l : List (List UInt8)) : List UInt8 := l.flatMap fun r => be 2 r.length ++ r
def recsOk (l : List (List UInt8)) : Prop := ∀ r ∈ l, 1 ≤ r.length ∧ r.length ≤ 65535
theorem stream_cons (r : List UInt8) (l : List (List UInt8)) : stream (r :: l) = be 2 r.length ++ r ++ stream l := by simp [stream]
theorem stream_snoc (l : List (List UInt8)) (r : List UInt8) : stream (l ++ [r]) = stream l ++ (be 2 r.length ++ r) := by simp [stream]
theorem drain_stream : ∀ (l : List (List UInt8)), recsOk l → drain (stream l) = (l, [], true)
  | [], _ => by rw [show stream [] = [] from rfl, drain_short (by simp)]
  | r :: l, h => by
    have hr := h r (List.mem_cons_self ..)
    have hv : val (be 2 r.length) = r.length := val_be2 _ (by omega)
    have e2 : (stream (r :: l)).take 2 = be 2 r.length := by rw [stream_cons]; simp [be_length]
    have ed : (stream (r :: l)).drop (2 + r.length) = stream l := by
      rw [stream_cons, List.drop_append]
      simp [be_length]
    have el : (stream (r :: l)).length = 2 + r.length + (stream l).length := by rw [stream_cons]; simp [be_length]; omega
    have e3 : ((stream (r :: l)).drop 2).take r.length = r := by
      rw [stream_cons]; simp [be_length]
    rw [drain_more (by omega) (by rw [e2, hv]; omega) (by rw [e2, hv]; omega), e2, hv, ed, e3, drain_stream l (fun x hx => h x (List.mem_cons_of_mem _ hx))]
/-- A first part of the stream of records. -/
theorem drain_prefix {l : List (List UInt8)} (hl : recsOk l) {p q : List UInt8} (h : p ++ q = stream l) : (drain p).2.2 = true ∧ ∃ m, (drain p).1 ++ m = l := by
  have hs := drain_stream l hl
  rw [← h] at hs
  cases ho : (drain p).2.2 with
  | false =>
    have := (drain_closed p q ho).2
    rw [hs] at this
    cases this
  | true =>
    have := drain_append p q ho
    rw [hs] at this
    exact ⟨rfl, _, (congrArg Prod.fst this).symm⟩

/-- The sectors of a batch. -/
def secs (e i : Nat) (f : Bool) (b : List UInt8) : List (List UInt8) :=
  if h : b = [] then [] else enc e i f (b.take 56) :: secs e (i + 1) false (b.drop 56)
termination_by b.length
decreasing_by simp; have := List.length_pos_iff.2 h; omega
theorem secs_nil (e i : Nat) (f : Bool) : secs e i f [] = [] := by rw [secs, dif_pos rfl]
theorem secs_cons {e i : Nat} {f : Bool} {b : List UInt8} (h : b ≠ []) : secs e i f b = enc e i f (b.take 56) :: secs e (i + 1) false (b.drop 56) := by rw [secs, dif_neg h]
theorem secs_length (e : Nat) : ∀ n (b : List UInt8) (i : Nat) (f : Bool), b.length ≤ n → (secs e i f b).length = (b.length + 55) / 56 := by
  intro n
  induction n with
  | zero => intro b i f h; obtain rfl : b = [] := List.eq_nil_of_length_eq_zero (by omega); rw [secs_nil]; rfl
  | succ n ih =>
    intro b i f h
    by_cases c : b = []
    · subst c; rw [secs_nil]; rfl
    · have hp := List.length_pos_iff.2 c
      rw [secs_cons c, List.length_cons, ih _ _ _ (by simp; omega), List.length_drop]
      omega
theorem secs_len (e i : Nat) (f : Bool) (b : List UInt8) : (secs e i f b).length = (b.length + 55) / 56 := secs_length e _ b i f (Nat.le_refl _)

/-- What was read of sectors. -/
structure St where
  b : List UInt8
  open_ : Bool
  at_ : Nat
  epoch : Nat
  l : List (List UInt8)
  end_ : Nat
  last : Nat
def st0 : St := ⟨[], false, 0, 0, [], 0, 0⟩
/-- Behind a sector that belongs to the log. -/
def eat (s : St) (x : Sec) : St :=
  let b1 := (if x.fresh then [] else s.b) ++ x.pay
  if (x.fresh || s.open_) = true then
    { b := (drain b1).2.1, open_ := (drain b1).2.2, at_ := s.at_ + 1, epoch := x.epoch, l := s.l ++ (drain b1).1, end_ := if (drain b1).1 = [] then s.end_ else s.at_ + 1, last := if (drain b1).1 = [] then s.last else x.epoch }
  else { b := b1, open_ := false, at_ := s.at_ + 1, epoch := x.epoch, l := s.l, end_ := s.end_, last := s.last }
def fits (s : St) (x : Sec) : Bool := decide (x.index = s.at_) && decide (s.epoch ≤ x.epoch) && (decide (x.epoch = s.epoch) || x.fresh)
def take (s : St) (b : List UInt8) : Option St := match dec b with
  | none => none
  | some x => if fits s x = true then some (eat s x) else none
def scan (s : St) : List (List UInt8) → St
  | [] => s
  | b :: l => match take s b with
    | none => s
    | some s' => scan s' l
theorem scan_some {s s' : St} {b : List UInt8} (l : List (List UInt8)) (h : take s b = some s') : scan s (b :: l) = scan s' l := by rw [scan, h]
theorem scan_none {s : St} {b : List UInt8} (l : List (List UInt8)) (h : take s b = none) : scan s (b :: l) = s := by rw [scan, h]
theorem take_enc {s : St} {e i : Nat} {f : Bool} {p : List UInt8} (h : secOk e i p = true) (hf : fits s ⟨e, i, f, p⟩ = true) : take s (enc e i f p) = some (eat s ⟨e, i, f, p⟩) := by
  rw [take, dec_enc h]
  simp only
  rw [if_pos hf]
theorem take_bad {s : St} {b : List UInt8} (h : dec b = none) : take s b = none := by rw [take, h]
theorem take_enc_none {s : St} {e i : Nat} {f : Bool} {p : List UInt8} (h : secOk e i p = true) (hf : fits s ⟨e, i, f, p⟩ = false) : take s (enc e i f p) = none := by
  rw [take, dec_enc h]
  simp only
  rw [if_neg (by rw [hf]; decide)]

/-- In the midst of a batch: p of its stream has been read. -/
def mid (l0 : List (List UInt8)) (e j : Nat) (p : List UInt8) (en la : Nat) : St := { b := (drain p).2.1, open_ := true, at_ := j, epoch := e, l := l0 ++ (drain p).1, end_ := en, last := la }
theorem eat_mid {l0 : List (List UInt8)} {e j : Nat} {p c : List UInt8} {en la : Nat} (hp : (drain p).2.2 = true) (hc : (drain (p ++ c)).2.2 = true) :
    eat (mid l0 e j p en la) ⟨e, j, false, c⟩ = mid l0 e (j + 1) (p ++ c) (if (drain ((drain p).2.1 ++ c)).1 = [] then en else j + 1) (if (drain ((drain p).2.1 ++ c)).1 = [] then la else e) := by
  have h := drain_append p c hp
  have h2 : (drain ((drain p).2.1 ++ c)).2.2 = true := by rw [h] at hc; exact hc
  simp only [eat, mid, Bool.false_or, if_true, Bool.false_eq_true, if_false]
  rw [h]
  simp only [h2, List.append_assoc]
theorem eat_fresh {s : St} {e i : Nat} {c : List UInt8} (hs : s.at_ = i) (hc : (drain c).2.2 = true) :
    eat s ⟨e, i, true, c⟩ = mid s.l e (i + 1) c (if (drain c).1 = [] then s.end_ else i + 1) (if (drain c).1 = [] then s.last else e) := by
  simp only [eat, mid, Bool.true_or, if_true, List.nil_append, hc, hs]

theorem take_pre {b : List UInt8} : b.take 56 ++ b.drop 56 = b := List.take_append_drop 56 b
theorem scan_mid {L : List (List UInt8)} (hL : recsOk L) {e : Nat} (he : 1 ≤ e) (he' : e ≤ 4294967295) (l0 : List (List UInt8)) (tl : List (List UInt8)) :
    ∀ n (q p z : List UInt8) (j en la : Nat), q.length ≤ n → (p ++ q) ++ z = stream L → j + (q.length + 55) / 56 ≤ 65536 → en ≤ j → ((drain p).2.1 = [] → en = j ∧ la = e) →
      ∃ en' la', scan (mid l0 e j p en la) (secs e j false q ++ tl) = scan (mid l0 e (j + (q.length + 55) / 56) (p ++ q) en' la') tl ∧ en' ≤ j + (q.length + 55) / 56 ∧
        ((drain (p ++ q)).2.1 = [] → en' = j + (q.length + 55) / 56 ∧ la' = e) := by
  intro n
  induction n with
  | zero =>
    intro q p z j en la hq hz hj hen hinv
    obtain rfl : q = [] := List.eq_nil_of_length_eq_zero (by omega)
    refine ⟨en, la, ?_, by simpa using hen, ?_⟩
    · rw [secs_nil, List.append_nil]; rfl
    · rw [List.append_nil]; intro h; simpa using hinv h
  | succ n ih =>
    intro q p z j en la hq hz hj hen hinv
    by_cases c : q = []
    · subst c
      refine ⟨en, la, ?_, by simpa using hen, ?_⟩
      · rw [secs_nil, List.append_nil]; rfl
      · rw [List.append_nil]; intro h; simpa using hinv h
    · have hpos := List.length_pos_iff.2 c
      have hz0 : p ++ (q ++ z) = stream L := by rw [← hz]; simp
      have hz1 : (p ++ q.take 56) ++ (q.drop 56 ++ z) = stream L := by
        rw [← hz]
        simp only [List.append_assoc]
        rw [← List.append_assoc (q.take 56), take_pre]
      have hp := (drain_prefix hL hz0).1
      have hc := (drain_prefix hL hz1).1
      have hok : secOk e j (q.take 56) = true := secOk_iff.2 (by simp only [List.length_take]; omega)
      have hfit : fits (mid l0 e j p en la) ⟨e, j, false, q.take 56⟩ = true := by simp [fits, mid]
      rw [secs_cons c, List.cons_append, scan_some _ (take_enc hok hfit), eat_mid hp hc]
      have hlen : (q.length + 55) / 56 = ((q.drop 56).length + 55) / 56 + 1 := by rw [List.length_drop]; omega
      have hz2 : ((p ++ q.take 56) ++ q.drop 56) ++ z = stream L := by rw [List.append_assoc p, take_pre]; exact hz
      have hd := drain_append p (q.take 56) hp
      obtain ⟨en', la', h1, h2, h3⟩ := ih (q.drop 56) (p ++ q.take 56) z (j + 1) (if (drain ((drain p).2.1 ++ q.take 56)).1 = [] then en else j + 1) (if (drain ((drain p).2.1 ++ q.take 56)).1 = [] then la else e) (by simp; omega) hz2 (by omega) (by split <;> omega)
        (by
          intro hnil
          rw [hd] at hnil
          by_cases c2 : (drain ((drain p).2.1 ++ q.take 56)).1 = []
          · have := drain_none c2
            rw [this] at hnil
            have hl : ((drain p).2.1 ++ q.take 56).length = 0 := by rw [hnil]; rfl
            simp only [List.length_append, List.length_take] at hl
            omega
          · rw [if_neg c2, if_neg c2]
            exact ⟨rfl, rfl⟩)
      rw [show p ++ q.take 56 ++ q.drop 56 = p ++ q by rw [List.append_assoc, take_pre]] at h1 h3
      exact ⟨en', la', by rw [h1, hlen, show j + 1 + ((q.drop 56).length + 55) / 56 = j + (((q.drop 56).length + 55) / 56 + 1) by omega], by omega, fun h => by have := h3 h; omega⟩
/-- The first sectors of a batch, from its first one on. -/
theorem scan_secs {L : List (List UInt8)} (hL : recsOk L) {e : Nat} (he : 1 ≤ e) (he' : e ≤ 4294967295) (s : St) (tl : List (List UInt8)) {b z : List UInt8} (hb : b ++ z = stream L) (hne : b ≠ []) {i : Nat} (hi : i + (b.length + 55) / 56 ≤ 65536) (hs : s.at_ = i) (hse : s.epoch ≤ e) (hen : s.end_ ≤ i) :
    ∃ en la, scan s (secs e i true b ++ tl) = scan (mid s.l e (i + (b.length + 55) / 56) b en la) tl ∧ en ≤ i + (b.length + 55) / 56 ∧ ((drain b).2.1 = [] → en = i + (b.length + 55) / 56 ∧ la = e) := by
  have hpos := List.length_pos_iff.2 hne
  have hz1 : b.take 56 ++ (b.drop 56 ++ z) = stream L := by rw [← List.append_assoc, take_pre]; exact hb
  have hc := (drain_prefix hL hz1).1
  have hok : secOk e i (b.take 56) = true := secOk_iff.2 (by simp only [List.length_take]; omega)
  have hfit : fits s ⟨e, i, true, b.take 56⟩ = true := by simp [fits, hs, hse]
  rw [secs_cons hne, List.cons_append, scan_some _ (take_enc hok hfit), eat_fresh hs hc]
  have hlen : (b.length + 55) / 56 = ((b.drop 56).length + 55) / 56 + 1 := by rw [List.length_drop]; omega
  obtain ⟨en', la', h1, h2, h3⟩ := scan_mid hL he he' s.l tl (b.drop 56).length (b.drop 56) (b.take 56) z (i + 1) (if (drain (b.take 56)).1 = [] then s.end_ else i + 1) (if (drain (b.take 56)).1 = [] then s.last else e) (Nat.le_refl _) (by rw [take_pre]; exact hb) (by omega) (by split <;> omega)
    (by
      intro hnil
      by_cases c2 : (drain (b.take 56)).1 = []
      · have := drain_none c2
        rw [this] at hnil
        have hl : (b.take 56).length = 0 := by rw [hnil]; rfl
        simp only [List.length_take] at hl
        omega
      · rw [if_neg c2, if_neg c2]
        exact ⟨rfl, rfl⟩)
  rw [take_pre] at h1 h3
  exact ⟨en', la', by rw [h1, hlen, show i + 1 + ((b.drop 56).length + 55) / 56 = i + (((b.drop 56).length + 55) / 56 + 1) by omega], by omega, fun h => by have := h3 h; omega⟩
theorem stream_ne {L : List (List UInt8)} (h : L ≠ []) : stream L ≠ [] := by
  cases L with
  | nil => exact absurd rfl h
  | cons r l => rw [stream_cons]; intro h2; have := congrArg List.length h2; simp [be_length] at this
/-- How many sectors records take. -/
def cnt (L : List (List UInt8)) : Nat := ((stream L).length + 55) / 56
/-- A batch by itself, from its first sector on. -/
theorem scan_batch {L : List (List UInt8)} (hL : recsOk L) (hne : L ≠ []) {e : Nat} (he : 1 ≤ e) (he' : e ≤ 4294967295) (s : St) (tl : List (List UInt8)) {i : Nat} (hi : i + cnt L ≤ 65536) (hs : s.at_ = i) (hse : s.epoch ≤ e) (hen : s.end_ ≤ i) :
    scan s (secs e i true (stream L) ++ tl) = scan ⟨[], true, i + cnt L, e, s.l ++ L, i + cnt L, e⟩ tl := by
  obtain ⟨en, la, h1, _, h3⟩ := scan_secs hL he he' s tl (b := stream L) (z := []) (by simp) (stream_ne hne) hi hs hse hen
  have hd := drain_stream L hL
  obtain ⟨h4, h5⟩ := h3 (by rw [hd])
  rw [h1, h4, h5, mid, hd]
  rfl
/-- The first sectors of a batch are those of the first bytes. -/
theorem secs_take (e : Nat) : ∀ k (b : List UInt8) (i : Nat) (f : Bool), (secs e i f b).take k = secs e i f (b.take (56 * k))
  | 0, b, i, f => by rw [List.take_zero, Nat.mul_zero, List.take_zero, secs_nil]
  | k + 1, b, i, f => by
    by_cases c : b = []
    · subst c; simp [secs_nil]
    · have hpos := List.length_pos_iff.2 c
      have hne : b.take (56 * (k + 1)) ≠ [] := by
        intro h
        have := congrArg List.length h
        simp only [List.length_take, List.length_nil] at this
        omega
      rw [secs_cons c, secs_cons hne, List.take_succ_cons, secs_take e k, List.take_take, List.drop_take, show min 56 (56 * (k + 1)) = 56 by omega, show 56 * (k + 1) - 56 = 56 * k by omega]
/-- Each sector of a batch. -/
theorem secs_get (e : Nat) : ∀ k (b : List UInt8) (i : Nat) (f : Bool) (h : k < (secs e i f b).length), (secs e i f b)[k] = enc e (i + k) (f && decide (k = 0)) ((b.drop (56 * k)).take 56)
  | 0, b, i, f, h => by
    have c : b ≠ [] := by intro c; subst c; simp [secs_nil] at h
    simp only [secs_cons c, List.getElem_cons_zero]
    simp
  | k + 1, b, i, f, h => by
    have c : b ≠ [] := by intro c; subst c; simp [secs_nil] at h
    simp only [secs_cons c] at h ⊢
    rw [List.getElem_cons_succ, secs_get e k]
    rw [List.drop_drop, show 56 + 56 * k = 56 * (k + 1) by omega, show i + 1 + k = i + (k + 1) by omega]
    simp
end Go.Proofs.YtofejnhnnmnfpaaDoor.Fr
