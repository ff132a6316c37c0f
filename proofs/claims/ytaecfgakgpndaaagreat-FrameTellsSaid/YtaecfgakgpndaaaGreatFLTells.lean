/- The walk of the law FrameTells. No condition. -/
import Derived.Test.YtaecfgakgpndaaaGreatFLaws1
import Derived.Test.YtaecfgakgpndaaaGreatFOpen
import Derived.Test.YtaecfgakgpndaaaGreatFBa
import Derived.Test.YtaecfgakgpndaaaGreatFR2
import Derived.Test.YtaecfgakgpndaaaGreatFR3
import Derived.Test.YtaecfgakgpndaaaGreatFR5
import Derived.Test.YtaecfgakgpndaaaGreatFR6
import Derived.Test.YtaecfgakgpndaaaGreatFLent
import Derived.Test.YtaecfgakgpndaaaGreatBkBT
import Derived.Lib.SmallJoins
import Derived.Outline
namespace Go.Proofs.YtaecfgakgpndaaaGreat
open Go.ChangeShapes Go.WideShapes Go.ChangeAt Go.RowKit Go.Joins
attribute [local go_sem] mk_size mk_append

def secA (e i : Int) (f : Bool) (p : List UInt8) : Value := .agg #[.int .i64 e, .int .i64 i, .bool f, .string (mk p)]
/-- Its fields. -/
def IsSec (_ : World) (v : Value) (x : Int × Int × Bool × List UInt8) : Prop :=
  v = secA x.1 x.2.1 x.2.2.1 x.2.2.2 ∧ x.2.2.2.length ≤ 140737488351232
set_option maxRecDepth 100000 in
theorem open_sec {H : Type} {enc : TypeId × Value → H} {W : World} {base : Nat} {v : Value} {d : DataW H} {p : List MemPlace} {ts : List TypeId} {ds : List (DataW H)} {j : Nat}
    (hsz : (DataW.weightsEach Tryz.prog ts ds).all (· ≤ reachBytes) = true) (ht : ts[j]? = some 23) (hd : ds[j]? = some d)
    (hval : Value.okWide Tryz.prog W .any base 23 v) (h : DataW.Trod enc Tryz.prog W 0 (fun _ => true) true 23 v d p) : ∃ x, IsSec W v x := by
  obtain ⟨c0, c1, c2, c3, y0, y1, y2, y3, n, rfl, rfl, rfl, h0, h1, h2, h3⟩ := open_agg4 Tryz.underlying23 (by kernel_rfl) (by kernel_rfl) hval h
  obtain ⟨a0, e0, f0, g0⟩ := DataW.trod_int Tryz.underlying3 h0
  obtain ⟨a1, e1, f1, g1⟩ := DataW.trod_int Tryz.underlying3 h1
  obtain ⟨a2, e2, f2⟩ := DataW.trod_bool Tryz.underlying4 h2
  obtain ⟨s, e3, f3, f4⟩ := DataW.trod_string Tryz.underlying9 h3
  cases e0
  cases e1
  cases e2
  cases e3
  refine ⟨⟨a0, a1, a2, s.data.toList⟩, by simp [secA, mk_of], ?_⟩
  subst f3
  have := List.all_eq_true.1 hsz _ (DataW.weights_mem_each ht hd s.data.toList.length (by
    simp only [DataW.weights, Tryz.underlying23]
    simp [DataW.weightsEach, DataW.weights]))
  have h2 := of_decide_eq_true this
  rw [Array.length_toList] at h2 ⊢
  exact h2

theorem wf_i64 {n : Int} (h : (Lit.int .i64 n).wf = true) : -9223372036854775808 ≤ n ∧ n ≤ 9223372036854775807 := by
  simp [Lit.wf] at h
  have e : IntKind.i64.min = -9223372036854775808 := by decide
  have e2 : IntKind.i64.max = 9223372036854775807 := by decide
  omega
theorem few_len2 {l : List (List UInt8)} (h : fewB l = true) : l.length ≤ 20 ∧ (stream l).length ≤ 1540 := by
  have h1 := fewB_iff.1 h
  have h2 := stream_tot l
  exact ⟨h1.1, by omega⟩
/-- Put of any sector, by the code. -/
theorem put_int (e i : Int) (f : Bool) (p : List UInt8) (w : World) (hp : p.length ≤ 140737488351232) :
    Calls Tryz.prog 6 #[.agg #[.int .i64 e, .int .i64 i, .bool f, .string (mk p)]] w fun en w' => en = .returned (.tuple #[.string (if secOk e i p then mk (enc e.toNat i.toNat f p) else ByteArray.empty), .bool (secOk e i p)]) ∧ Below w.heap.size w w' := by
  by_cases h : secOk e i p = true
  · obtain ⟨h1, h2, h3, h4, _⟩ := secOk_iff.1 h
    obtain ⟨e', rfl⟩ := Int.eq_ofNat_of_zero_le (show 0 ≤ e by omega)
    obtain ⟨i', rfl⟩ := Int.eq_ofNat_of_zero_le h3
    refine (put_yes e' i' f p w h).mono fun en w' ⟨he, hb⟩ => ⟨?_, hb⟩
    rw [he, h, if_pos rfl, Int.toNat_natCast, Int.toNat_natCast]
  · have hf : secOk e i p = false := Bool.eq_false_iff.2 h
    refine (put_no e i f p w hp hf).mono fun en w' ⟨he, hb⟩ => ⟨?_, hb⟩
    rw [he, hf]
    rfl
/-- A sector in a block. -/
def SB (t : TypeId) (w : World) (B : Nat) (e i : Int) (f : Bool) (p : List UInt8) : Prop := w.heap[B]? = some (.cells #[.int .i64 e, .int .i64 i, .bool f, .string (mk p)] t (0, 0))
theorem SB.more {t : TypeId} {w w' : World} {B : Nat} {e i : Int} {f : Bool} {p : List UInt8} (h : SB t w B e i f p) (hb : Below w.heap.size w w') : SB t w' B e i f p := (hb.block _ (lt_of h)).trans h
theorem SB.alloc {t : TypeId} {w : World} {B : Nat} {e i : Int} {f : Bool} {p : List UInt8} (h : SB t w B e i f p) (o : Obj) : SB t (w.alloc o) B e i f p := h.more ((Below.refl _ _).alloc (Nat.le_refl _) _)
theorem SB.new (t : TypeId) (w : World) (e i : Int) (f : Bool) (p : List UInt8) : SB t (w.alloc (.cells #[.int .i64 e, .int .i64 i, .bool f, .string (mk p)] t)) w.heap.size e i f p := heap_alloc_new w _
theorem SB.cells {t : TypeId} {w : World} {B : Nat} {e i : Int} {f : Bool} {p : List UInt8} (h : SB t w B e i f p) : w.cell? ⟨B, 0, none⟩ = some (.int .i64 e) ∧ w.cell? ⟨B, 1, none⟩ = some (.int .i64 i) ∧ w.cell? ⟨B, 2, none⟩ = some (.bool f) ∧ w.cell? ⟨B, 3, none⟩ = some (.string (mk p)) :=
  ⟨cell_of h rfl, cell_of h rfl, cell_of h rfl, cell_of h rfl⟩
theorem secV_form (o : Option Sec) : ∃ (g1 g2 : Int) (g3 : Bool) (g4 : List UInt8) (on : Bool), secV o = .tuple #[.agg #[.int .i64 g1, .int .i64 g2, .bool g3, .string (mk g4)], .bool on] := by
  cases o with
  | none => exact ⟨0, 0, false, [], false, rfl⟩
  | some s => exact ⟨s.epoch, s.index, s.fresh, s.pay, true, rfl⟩
theorem scan_at : ∀ (l : List (List UInt8)) (s : St), Inv s → Inv (scan s l) ∧ (scan s l).at_ ≤ s.at_ + l.length
  | [], s, h => by rw [scan]; exact ⟨h, by omega⟩
  | b :: l, s, h => by
    cases ht : Go.Proofs.YtaecfgakgpndaaaGreat.take s b with
    | none => rw [scan_none _ ht]; exact ⟨h, by omega⟩
    | some s' =>
      have h1 := h.take ht
      obtain ⟨x, hd, _, e⟩ := take_fits ht
      rw [scan_some _ ht]
      obtain ⟨h2, h3⟩ := scan_at l s' h1
      have : s'.at_ = s.at_ + 1 := by rw [e]; unfold eat; simp only; split <;> rfl
      exact ⟨h2, by rw [this] at h3; simp only [List.length_cons]; omega⟩
theorem scan_few (l : List (List UInt8)) (h : l.length ≤ 40) : (scan st0 l).l.length ≤ 1000000 := by
  obtain ⟨⟨h1, _⟩, h2⟩ := scan_at l st0 Inv.start
  have : st0.at_ = 0 := rfl
  omega
theorem batD_len (e i : Int) (l : List (List UInt8)) (h : (stream l).length ≤ 1540) : (batD e i l).length ≤ 1000000 := by
  unfold batD
  split
  · rw [secs_len]; omega
  · simp
theorem lentT_chg {S : Nat → Prop} {w w' : World} {g n : Nat} {l : List (List UInt8)} (h : LentT w g n l) (hc : Chg S w w') (hg : ¬ S g) : LentT w' g n l := by
  have hh : w'.heap[g]? = w.heap[g]? := hc.block g (World.block_lt_of_cell? w _ h.2.2) hg
  have hcl : ∀ o, w'.cell? ⟨g, o, none⟩ = w.cell? ⟨g, o, none⟩ := fun o => World.cell?_of_block (a := ⟨g, o, none⟩) hh
  obtain ⟨h1, h2, h3⟩ := h
  exact ⟨fun j hj => by
    obtain ⟨b, o, e, q1⟩ := h1 j hj
    cases e
    exact ⟨g, 0, rfl, by rw [hcl]; exact q1⟩, h2, by rw [hcl]; exact h3⟩

set_option maxRecDepth 100000 in
set_option maxHeartbeats 6400000 in
theorem frameTells_walk (v : Value) (z : Int × Int × Bool × List UInt8) (b : ByteArray) (ep ix : Int) (v1 : Value) (l : List (List UInt8)) (v2 : Value) (X : List (List UInt8)) (w : World)
    (hv : IsSec w v z) (hb : b.size ≤ 140737488351232) (we : (Lit.int .i64 ep).wf = true) (wi : (Lit.int .i64 ix).wf = true) (h1 : IsTexts w v1 l) (h2 : IsTexts w v2 X) :
    Calls Tryz.prog 3 #[v, .string b, .int .i64 ep, .int .i64 ix, v1, v2] w fun e w' => e = .returned (.bool true) ∧ Below w.heap.size w w' := by
  obtain ⟨rfl, hlp⟩ := hv
  obtain ⟨e, i, f, p⟩ := z
  unfold secA
  simp only at hlp ⊢
  obtain ⟨bl, rfl⟩ : ∃ l, b = mk l := ⟨b.data.toList, (mk_of b).symm⟩
  rw [mk_size] at hb
  obtain ⟨a, c, rfl, ha, hlen, hz⟩ := h1
  obtain ⟨a2, c2, rfl, hX, hXl, hXz⟩ := h2
  have hbA := Lib.hid ((Below.refl w.heap.size w).alloc (Nat.le_refl _) (.cells #[.int .i64 e, .int .i64 i, .bool f, .string (mk p)] 23))
  have haA := Lib.hid (ha.more hbA.out)
  have hXA := Lib.hid (hX.more hbA.out)
  by_cases d1 : 100 < (p.length : Int)
  · go_enter Tryz.func3, Tryz.ntmps3
    go_wp2_with fail
    refine (alive_true _).mono ?_
    rintro e w2 ⟨rfl, h2⟩
    go_wp2
    go_ret
    exact ⟨rfl, hbA.out.trans (h2.mono hbA.out.size)⟩
  by_cases d2 : 100 < (bl.length : Int)
  · go_enter Tryz.func3, Tryz.ntmps3
    go_wp2_with fail
    refine (alive_true _).mono ?_
    rintro e w2 ⟨rfl, h2⟩
    go_wp2
    go_ret
    exact ⟨rfl, hbA.out.trans (h2.mono hbA.out.size)⟩
  cases hf : fewB l with
  | false =>
    go_enter Tryz.func3, Tryz.ntmps3
    go_wp2_with fail
    refine (few_any a c l _ haA.out hlen hz).mono ?_
    rintro e w2 ⟨rfl, hz2⟩
    obtain rfl := hz2.symm
    clear hz2
    rw [hf]
    go_wp2_with fail
    refine (alive_true _).mono ?_
    rintro e w2 ⟨rfl, h2⟩
    go_wp2
    go_ret
    exact ⟨rfl, hbA.out.trans (h2.mono hbA.out.size)⟩
  | true =>
  by_cases d4 : 40 < (X.length : Int)
  · go_enter Tryz.func3, Tryz.ntmps3
    go_wp2_with fail
    refine (few_any a c l _ haA.out hlen hz).mono ?_
    rintro e w2 ⟨rfl, hz2⟩
    obtain rfl := hz2.symm
    clear hz2
    rw [hf]
    go_wp2_with fail
    refine (alive_true _).mono ?_
    rintro e w2 ⟨rfl, h2⟩
    go_wp2
    go_ret
    exact ⟨rfl, hbA.out.trans (h2.mono hbA.out.size)⟩
  go_enter Tryz.func3, Tryz.ntmps3
  go_wp2_with fail
  refine (few_any a c l _ haA.out hlen hz).mono ?_
  rintro en w2 ⟨rfl, hz2⟩
  obtain rfl := hz2.symm
  clear hz2
  rw [hf]
  obtain ⟨hl20, hs⟩ := few_len2 hf
  replace hf := Lib.hid hf
  have hx0 : (w.alloc (.cells #[.int .i64 e, .int .i64 i, .bool f, .string (mk p)] 23)).heap[w.heap.size]? = some (.cells #[.int .i64 e, .int .i64 i, .bool f, .string (mk p)] 23 (0, 0)) := heap_alloc_new w _
  replace hx0 := Lib.hid hx0
  go_wp2_with fail
  refine (alive_true _).mono ?_
  rintro en w1 ⟨rfl, b1⟩
  have ha1 := Lib.hid (haA.out.more b1)
  have hX1 := Lib.hid (hXA.out.more b1)
  have hx1 := (Chg.of_below (S := fun _ => False) b1).heap hx0.out id
  have hb1 := Lib.hid (hbA.out.trans (b1.mono hbA.out.size))
  have hx1' : SB 23 w1 w.heap.size e i f p := hx1
  obtain ⟨x0, x1, x2, x3⟩ := hx1'.cells
  clear hx1'
  replace hx1 := Lib.hid hx1
  clear b1 hx0 haA hXA hbA
  go_wp2
  replace hX1 := Lib.hid hX1.out
  go_loop [61] (fun i => ∃ k : Nat, k ≤ X.length ∧ i = .int .i64 k ∧ Aside (∀ b ∈ X.take k, b.length ≤ 100)) (fun i => X.length - (intOf i).toNat)
  case atStart => exact ⟨0, Nat.zero_le _, rfl, fun b h => by simp at h⟩
  case round =>
    obtain ⟨k, hk, rfl, hA⟩ := hrel
    have hX100 := Lib.hid hA.out
    clear hA
    by_cases hlt : k < X.length
    · obtain ⟨bE, oE, e0, hcE⟩ := hX1.out k hlt
      subst e0
      obtain ⟨q, hq⟩ : ∃ q, q = X[k] := ⟨_, rfl⟩
      have htk := Lib.hid (List.take_succ_eq_append_getElem hlt)
      rw [← hq] at hcE
      have hki : (k : Int) < X.length := by omega
      have hqz : q.length ≤ 140737488351232 := by rw [hq]; exact hXz _ (List.getElem_mem hlt)
      replace hq := Lib.hid hq
      by_cases dq : 100 < (q.length : Int)
      · go_wp2
        go_ret
        exact ⟨rfl, hb1.out⟩
      · go_wp2
        go_round
        case rel => exact ⟨k + 1, hlt, by go_num, by
          intro b hb
          rw [htk.out, ← hq.out] at hb
          rcases List.mem_append.1 hb with h | h
          · exact hX100.out b h
          · rw [List.mem_singleton.1 h]; omega⟩
        case measure => simp [intOf]; omega
    · obtain rfl : k = X.length := by omega
      have hX40 : X.length ≤ 40 := by omega
      clear hX100
      have Q1 := hx1.out
      obtain ⟨S, ok, hput⟩ : ∃ (S : ByteArray) (ok : Bool), (if secOk e i p then mk (enc e.toNat i.toNat f p) else ByteArray.empty) = S ∧ secOk e i p = ok := ⟨_, _, rfl, rfl⟩
      obtain ⟨g1, g2, g3, g4, on, hg⟩ := secV_form (dec bl)
      go_wp2_with fail
      refine (put_int e i f p _ hlp).mono ?_
      rintro en w2 ⟨rfl, h2⟩
      rw [hput.1, hput.2]
      have P2 : SB 23 w2 w.heap.size e i f p := SB.more hx1.out h2
      have ha2 := Lib.hid (ha1.out.more h2)
      have hX2 := Lib.hid (hX1.out.more h2)
      have b2 := Lib.hid (hb1.out.trans (h2.mono hb1.out.size))
      clear h2 ha1 hX1 hb1 hx1 x0 x1 x2 x3 Q1
      obtain ⟨x0, x1, x2, x3⟩ := P2.cells
      clear P2
      go_wp2_with fail
      refine (sput_int e i f p _ hlp).mono ?_
      rintro en w3 ⟨rfl, h3⟩
      rw [hput.1, hput.2]
      have ha3 := Lib.hid (ha2.out.more h3)
      have hX3 := Lib.hid (hX2.out.more h3)
      have b3 := Lib.hid (b2.out.trans (h3.mono b2.out.size))
      clear h3 ha2 hX2 b2 x0 x1 x2 x3 hput
      go_wp2_with fail
      refine (get_any bl _ _ hb rfl).mono ?_
      rintro en w4 ⟨rfl, h4⟩
      rw [hg]
      have Y4 := Lib.hid (SB.new 23 w4 g1 g2 g3 g4)
      have q4 := h4.alloc h4.size (.cells #[.int .i64 g1, .int .i64 g2, .bool g3, .string (mk g4)] 23)
      have ha4 := Lib.hid (ha3.out.more q4)
      have hX4 := Lib.hid (hX3.out.more q4)
      have b4 := Lib.hid (b3.out.trans (q4.mono b3.out.size))
      clear h4 q4 ha3 hX3 b3
      go_wp2_with fail
      refine (sget_any bl _ _ hb rfl).mono ?_
      rintro en w5 ⟨rfl, h5⟩
      rw [hg]
      have Y5 := SB.alloc (SB.more Y4.out h5) (.cells #[.int .i64 g1, .int .i64 g2, .bool g3, .string (mk g4)] 30)
      have Z5 := SB.new 30 w5 g1 g2 g3 g4
      have q5 := h5.alloc h5.size (.cells #[.int .i64 g1, .int .i64 g2, .bool g3, .string (mk g4)] 30)
      have ha5 := Lib.hid (ha4.out.more q5)
      have hX5 := Lib.hid (hX4.out.more q5)
      have b5 := Lib.hid (b4.out.trans (q5.mono b4.out.size))
      clear h5 q5 ha4 hX4 b4 Y4 hg
      obtain ⟨y0, y1, y2, y3⟩ := Y5.cells
      obtain ⟨z0, z1, z2, z3⟩ := Z5.cells
      clear Y5 Z5
      go_wp2_with fail
      obtain ⟨w5', hw5'⟩ : ∃ w5', w5' = w5.alloc (.cells #[.int .i64 g1, .int .i64 g2, .bool g3, .string (mk g4)] 30) := ⟨_, rfl⟩
      rw [← hw5'] at ha5 hX5 b5 ⊢
      clear y0 y1 y2 y3 z0 z1 z2 z3
      obtain ⟨w6, hw6⟩ : ∃ w6, w6 = w5'.alloc (.cells bk18 46) := ⟨_, rfl⟩
      have hz5 : w5'.heap.size = w5.heap.size + 1 := by rw [hw5']; simp
      have hK6 : Bks (fun _ => False) w6 (w5.heap.size + 1) w.heap.size [] := by rw [hw6, ← hz5]; exact Bks.start w5' _
      have q6 : Below w5'.heap.size w5' w6 := by rw [hw6]; exact (Below.refl _ _).alloc (Nat.le_refl _) _
      have ha6 := Lib.hid (ha5.out.more q6)
      have hX6 := Lib.hid (hX5.out.more q6)
      have b6 := Lib.hid (b5.out.trans (q6.mono b5.out.size))
      have s56 : w6.heap.size = w5.heap.size + 1 + 1 := by rw [hw6, ← hz5]; simp
      replace hK6 := Lib.hid hK6
      unfold bk18 at hw6
      replace hz5 := Lib.hid hz5
      clear q6 ha5 hX5
      rw [← hw6]
      replace hw6 := Lib.hid hw6
      replace hw5' := Lib.hid hw5'
      refine (lentT_any a c l w6 ha6.out (by omega)).mono ?_
      rintro en w7 ⟨g7, cap7, rfl, hcap7, hg7, hL7, h7⟩
      have ha7 := Lib.hid (ha6.out.more h7)
      have hX7 := Lib.hid (hX6.out.more h7)
      have b7 := Lib.hid (b6.out.trans (h7.mono b6.out.size))
      have hK7 := Lib.hid (hK6.out.more h7)
      have s67 := h7.size
      have hg7' : g7 < w7.heap.size := World.block_lt_of_cell? w7 _ hL7.2.2
      replace hL7 := Lib.hid hL7
      clear h7 ha6 hX6 b6 hK6
      go_wp2_with fail
      refine (lentT_any a2 c2 X w7 hX7.out (by omega)).mono ?_
      rintro en w8 ⟨g8, cap8, rfl, hcap8, hg8, hL8, h8⟩
      have ha8 := Lib.hid (ha7.out.more h8)
      have hX8 := Lib.hid (hX7.out.more h8)
      have b8 := Lib.hid (b7.out.trans (h8.mono b7.out.size))
      have hK8 := Lib.hid (hK7.out.more h8)
      have hM8 := Lib.hid (hL7.out.more h8)
      have s78 := h8.size
      have hg8' : g8 < w8.heap.size := World.block_lt_of_cell? w8 _ hL8.2.2
      replace hL8 := Lib.hid hL8
      clear h8 ha7 hX7 b7 hK7 hL7
      obtain ⟨D, hD⟩ : ∃ D, batD ep ix l = D := ⟨_, rfl⟩
      obtain ⟨dk, hdk⟩ : ∃ dk, batOk ep ix l = dk := ⟨_, rfl⟩
      have hDl : D.length ≤ 1000000 := by rw [← hD]; exact batD_len ep ix l hs
      go_wp2_with fail
      refine (batch_all ep ix (some ⟨g7, 0, none⟩) cap7 l w8 (by omega) hM8.out.1).mono ?_
      rintro en w9 ⟨v9, rfl, o9, h9⟩
      rw [hD] at o9
      rw [hdk]
      have ha9 := Lib.hid (ha8.out.more h9)
      have hX9 := Lib.hid (hX8.out.more h9)
      have b9 := Lib.hid (b8.out.trans (h9.mono b8.out.size))
      have hK9 := Lib.hid (hK8.out.more h9)
      have hM9 := Lib.hid (hM8.out.more h9)
      have hN9 := Lib.hid (hL8.out.more h9)
      have s89 := h9.size
      have lt9 := Lib.hid (fun k hk => o9.lt k hk)
      obtain ⟨a9, m9, c9, rfl, e9⟩ := own_form o9
      subst e9
      replace o9 := Lib.hid o9
      clear h9 ha8 hX8 b8 hK8 hM8 hL8
      go_wp2_with fail
      refine (rbatch_all ep ix a c l w9 (wf_i64 wi).1 (wf_i64 wi).2 (by omega) ha9.out).mono ?_
      rintro en w10 ⟨v10, rfl, o10, h10⟩
      rw [hD] at o10
      rw [hdk]
      have ha10 := Lib.hid (ha9.out.more h10)
      have hX10 := Lib.hid (hX9.out.more h10)
      have b10 := Lib.hid (b9.out.trans (h10.mono b9.out.size))
      have hK10 := Lib.hid (hK9.out.more h10)
      have hM10 := Lib.hid (hM9.out.more h10)
      have hN10 := Lib.hid (hN9.out.more h10)
      have p9 := Lib.hid (((Chg.of_below (S := fun _ => False) h10).row o9.out (fun _ _ => id)).mono (show w.heap.size ≤ w8.heap.size by have := b9.out.size; have := b10.out.size; have := b5.out.size; have := hz5.out; omega))
      have s910 := h10.size
      have lt10 := Lib.hid (fun k hk => o10.lt k hk)
      obtain ⟨a10, m10, c10, rfl, e10⟩ := own_form o10
      subst e10
      replace o10 := Lib.hid o10
      clear h10 ha9 hX9 b9 hK9 hM9 hN9 o9
      have s5 : w.heap.size ≤ w5.heap.size + 1 := by rw [← hz5.out]; exact b5.out.size
      go_wp2_with fail
      refine (hK10.out.keep p9.out (fun k hk => ⟨id, by have := lt9.out k hk; omega⟩) (scells_length D) (scells_one D) hDl (by simp)).mono ?_
      rintro en w11 ⟨rfl, hK11, c11⟩
      have b11 := Lib.hid (b10.out.trans (c11.below (fun k _ h => by rcases h with h | h; omega; exact h.elim) (by omega)))
      have ha11 := Lib.hid (ha.more b11.out)
      have hX11 := Lib.hid (hX.more b11.out)
      have hM11 := Lib.hid (lentT_chg hM10.out c11 (fun h => by rcases h with h | h; omega; exact h.elim))
      have hN11 := Lib.hid (lentT_chg hN10.out c11 (fun h => by rcases h with h | h; omega; exact h.elim))
      have o11 := Lib.hid (c11.row o10.out (fun k hk h => by have := lt10.out k hk; rcases h with h | h; omega; exact h.elim))
      have s1011 := c11.size
      replace hK11 := Lib.hid hK11
      clear c11 hK10 p9 o10 ha10 hX10 b10 hM10 hN10
      obtain ⟨r, hr⟩ : ∃ r, scan st0 X = r := ⟨_, rfl⟩
      have hrl : r.l.length ≤ 1000000 := by rw [← hr]; exact scan_few X hX40
      go_wp2_with fail
      refine (scan_any (some ⟨g8, 0, none⟩) cap8 X r w11 (by omega) hXz hN11.out.1 hr).mono ?_
      rintro en w12 ⟨v12, rfl, o12, h12⟩
      have ha12 := Lib.hid (ha11.out.more h12)
      have hX12 := Lib.hid (hX11.out.more h12)
      have b12 := Lib.hid (b11.out.trans (h12.mono b11.out.size))
      have hK12 := Lib.hid (hK11.out.more h12)
      have hM12 := Lib.hid (hM11.out.more h12)
      have hN12 := Lib.hid (hN11.out.more h12)
      have d12 := Lib.hid ((Chg.of_below (S := fun _ => False) h12).row o11.out (fun _ _ => id))
      have s1112 := h12.size
      have lt12 := Lib.hid (fun k hk => o12.lt k hk)
      obtain ⟨a12, m12, c12, rfl, e12⟩ := own_form o12
      subst e12
      replace o12 := Lib.hid o12
      clear h12 ha11 hX11 b11 hK11 hM11 hN11 o11
      go_wp2_with fail
      refine (rscan_any a2 c2 X r w12 (by omega) hXz hX12.out hr).mono ?_
      rintro en w13 ⟨v13, rfl, o13, h13⟩
      have ha13 := Lib.hid (ha12.out.more h13)
      have hX13 := Lib.hid (hX12.out.more h13)
      have b13 := Lib.hid (b12.out.trans (h13.mono b12.out.size))
      have hK13 := Lib.hid (hK12.out.more h13)
      have hM13 := Lib.hid (hM12.out.more h13)
      have hN13 := Lib.hid (hN12.out.more h13)
      have d13 := Lib.hid ((Chg.of_below (S := fun _ => False) h13).row d12.out (fun _ _ => id))
      have p13 := Lib.hid (((Chg.of_below (S := fun _ => False) h13).row o12.out (fun _ _ => id)).mono (show w.heap.size ≤ w11.heap.size by omega))
      have s1213 := h13.size
      have lt13 := Lib.hid (fun k hk => o13.lt k hk)
      obtain ⟨a13, m13, c13, rfl, e13⟩ := own_form o13
      subst e13
      replace o13 := Lib.hid o13
      replace hr := Lib.hid hr
      clear h13 ha12 hX12 b12 hK12 hM12 hN12 d12 o12
      obtain ⟨rl, hrl2⟩ : ∃ rl, rl = r.l := ⟨_, rfl⟩
      rw [← hrl2] at hrl p13 o13 lt12 lt13
      rw [← hrl2]
      replace hrl2 := Lib.hid hrl2
      go_wp2_with fail
      refine (hK13.out.keep p13.out (fun k hk => ⟨fun e => by
        have := lt12.out k hk
        rcases e with e | e | e
        · exact e.elim
        · have := lt9.out k e; omega
        · omega, by have := lt12.out k hk; omega⟩) (scells_length rl) (scells_one rl) hrl (by simp)).mono ?_
      rintro en w14 ⟨rfl, hK14, c14⟩
      have hS14 : ∀ k, (k = (w5.heap.size + 1) ∨ (False ∨ (Value.slice a9 D.length c9).ownBlock = some k ∨ (w10.heap.size ≤ k ∧ k < w11.heap.size))) → k = (w5.heap.size + 1) ∨ (w8.heap.size ≤ k ∧ k < w9.heap.size) ∨ (w10.heap.size ≤ k ∧ k < w11.heap.size) := fun k h => by
        rcases h with h | h | h | h
        · exact .inl h
        · exact h.elim
        · exact .inr (.inl (lt9.out k h))
        · exact .inr (.inr h)
      have b14 := Lib.hid (b13.out.trans (c14.below (fun k _ h => by have := hS14 k h; omega) (by omega)))
      have ha14 := Lib.hid (ha.more b14.out)
      have hX14 := Lib.hid (hX.more b14.out)
      have hM14 := Lib.hid (lentT_chg hM13.out c14 (fun h => by have := hS14 _ h; omega))
      have hN14 := Lib.hid (lentT_chg hN13.out c14 (fun h => by have := hS14 _ h; omega))
      have d14 := RdAt.own (c14.row d13.out (fun k hk h => by have := lt10.out k hk; have := hS14 k h; omega))
      have e14 := RdAt.own (c14.row o13.out (fun k hk h => by have := lt13.out k hk; have := hS14 k h; omega))
      have r14 := RdAt.own (hK14.row 0 (by simp))
      have t14 := RdAt.own (hK14.row 1 (by simp))
      simp only [List.nil_append, List.cons_append, List.getElem_cons_zero, List.getElem_cons_succ] at r14 t14
      replace d14 := Lib.hid d14
      replace e14 := Lib.hid e14
      replace r14 := Lib.hid r14
      replace t14 := Lib.hid t14
      have hK15 : Bks (fun k => w.heap.size ≤ k) w14 (w5.heap.size + 1) w.heap.size [⟨.slice a9 D.length c9, D.length, scells D⟩, ⟨.slice a12 rl.length c12, rl.length, scells rl⟩] := hK14.wide (fun k e => by
        rcases e with (e | e | e) | e | e
        · exact e.elim
        · have := lt9.out k e; omega
        · omega
        · have := lt12.out k e; omega
        · omega)
      replace hK15 := Lib.hid hK15
      clear c14 hS14 hK13 hK14 p13 o13 d13 ha13 hX13 b13 hM13 hN13
      have sw := b14.out.size
      go_wp2_with fail
      refine (bkT_same (.slice a9 D.length c9) (.slice a10 D.length c10) D.length (scells D) w14 r14.out d14.out (scells_length D) (scells_all D) (by omega)).mono ?_
      rintro en w15 ⟨rfl, m15, hw15⟩
      have h15 : Below w14.heap.size w14 w15 := by rw [hw15]; exact bk_drewNT (Below.refl _ _) _
      replace h15 := Lib.hid h15
      clear hw15
      have b15 := Lib.hid (b14.out.trans (h15.out.mono b14.out.size))
      go_wp2_with fail
      refine (count_any (some ⟨g7, 0, none⟩) cap7 l w15 (by omega) (hM14.out.more h15.out).1).mono ?_
      rintro en w16 ⟨rfl, h16⟩
      have k16 := Lib.hid (h15.out.trans (h16.mono h15.out.size))
      clear h16 h15 b15
      go_wp2_with fail
      refine (rcount_any a c l w16 (by omega) (ha14.out.more k16.out)).mono ?_
      rintro en w17 ⟨rfl, h17⟩
      have k17 := Lib.hid (k16.out.trans (h17.mono k16.out.size))
      clear h17 k16
      go_wp2_with fail
      refine (bkT_same (.slice a12 rl.length c12) (.slice a13 rl.length c13) rl.length (scells rl) w17 (t14.out.more k17.out) (e14.out.more k17.out) (scells_length rl) (scells_all rl) (by omega)).mono ?_
      rintro en w18 ⟨rfl, m18, hw18⟩
      have h18 : Below w17.heap.size w17 w18 := by rw [hw18]; exact bk_drewNT (Below.refl _ _) _
      have k18 := Lib.hid (k17.out.trans (h18.mono k17.out.size))
      clear h18 hw18 k17
      go_wp2_with fail
      refine (staysT_any g7 cap7 a c l w18 (hM14.out.more k18.out) hcap7 (ha14.out.more k18.out) (by omega)).mono ?_
      rintro en w19 ⟨rfl, h19⟩
      have k19 := Lib.hid (k18.out.trans (h19.mono k18.out.size))
      clear h19 k18
      go_wp2_with fail
      refine (staysT_any g8 cap8 a2 c2 X w19 (hN14.out.more k19.out) hcap8 (hX14.out.more k19.out) (by omega)).mono ?_
      rintro en w20 ⟨rfl, h20⟩
      have k20 := Lib.hid (k19.out.trans (h20.mono k19.out.size))
      have hK20 := Lib.hid (hK15.out.more k20.out)
      have b20 := Lib.hid (b14.out.trans (k20.out.mono b14.out.size))
      clear h20 k19 k20 hK15
      go_wp2_with fail
      refine (hK20.out.apart (by simp) (fun l hl => by simp at hl; rcases hl with rfl | rfl <;> exact ⟨scells_length _, scells_all _, by omega⟩) b20.out.size).mono ?_
      rintro en w21 ⟨rfl, h21⟩
      have hfin := Lib.hid (b20.out.trans (h21.below (fun k _ h => h) b20.out.size))
      clear h21
      go_wp2
      go_ret
      exact ⟨rfl, hfin.out⟩
end Go.Proofs.YtaecfgakgpndaaaGreat
