/- The walk of the law WalLeft. No condition but the table of spaces. -/
import Derived.Test.YtofejnhnnmnfpaaDoorWVs
import Derived.ProofKit
import Derived.OpenShut
import Derived.SizedLaws
import Derived.Deep.Slices
import Derived.Deep.LoopGhost
namespace Go.Proofs.YtofejnhnnmnfpaaDoor
set_option maxRecDepth 100000
open Go.RowKit
section
open Go.ChangeShapes Go.WideShapes Go.ChangeAt Go.Deep
/-- Its length, its cells. -/
def IsInts (w : World) (v : Value) (l : List Int) : Prop :=
  ∃ a c, v = .slice a l.length c ∧ l.length ≤ 140737488351232 ∧ ∀ j (h : j < l.length), ∃ b o, a = some ⟨b, o, none⟩ ∧ w.cell? ⟨b, o + j, none⟩ = some (.int .i64 l[j]) ∧ (Lit.int .i64 l[j]).wf = true
theorem open_intz {H : Type} {enc : TypeId × Value → H} {W : World} {base : Nat} {v : Value} {d : DataW H} {p : List MemPlace} {ts : List TypeId} {ds : List (DataW H)} {j : Nat}
    (hsz : (DataW.weightsEach Tryd.prog ts ds).all (· ≤ reachBytes) = true) (ht : ts[j]? = some 32) (hd : ds[j]? = some d)
    (hval : Value.okWide Tryd.prog W .any base 32 v) (h : DataW.Trod enc Tryd.prog W 0 (fun _ => true) true 32 v d p) : ∃ l, IsInts W v l := by
  obtain ⟨a0, len, cap, rfl⟩ := okWide_slice Tryd.underlying32 hval
  obtain ⟨fuel, hf⟩ := h
  rcases open_ints Tryd.underlying32 Tryd.underlying3 (by kernel_rfl) hf with ⟨hcs, _⟩ | ⟨a, len', cap', zs, hcs, _, hl, hm, hz, hx, hcell, hwf⟩
  · simp [Value.cells] at hcs
    obtain ⟨rfl, rfl, rfl⟩ := hcs
    exact ⟨[], none, 0, rfl, by simp, fun j h => by simp at h⟩
  · simp [Value.cells] at hcs
    obtain ⟨rfl, rfl, rfl⟩ := hcs
    have hz' : zs.length = cap := by simpa using hz
    have hdd : d = .slice (lits .i64 (zs.take len)) (lits .i64 (zs.drop len)) := congrArg Prod.fst hx
    subst hdd
    have hlb : len ≤ 140737488351232 := by
      have := List.all_eq_true.1 hsz _ (DataW.weights_mem_each ht hd (((lits (H := H) .i64 (zs.take len)).length + (lits (H := H) .i64 (zs.drop len)).length) * (Tryd.prog.bytesOf 3)) (by
        simp only [DataW.weights, Tryd.underlying32, List.mem_cons, List.mem_append]
        exact .inl trivial))
      have hby : Tryd.prog.bytesOf 3 = 8 := by kernel_rfl
      rw [hby] at this
      simp [lits, reachBytes] at this
      omega
    refine ⟨zs.take len, some a, cap, by rw [List.length_take, Nat.min_eq_left (by omega)], by rw [List.length_take]; omega, fun i hj => ?_⟩
    have hj' : i < len := by rw [List.length_take] at hj; omega
    have hc := hcell i (by omega)
    obtain ⟨b, o, sp⟩ := a
    have hsp : sp = none := by simpa [Addr.add] using World.cell?_spot (hcell 0 (by omega))
    subst hsp
    refine ⟨b, o, rfl, ?_, ?_⟩
    · rw [Addr.add_lit] at hc
      rw [hc]
      simp [List.getD, show i < zs.length by omega]
    · exact hwf _ (List.mem_of_mem_take (List.getElem_mem hj))
end
theorem lcnt_snoc {l : List (List UInt8)} {b : List UInt8} (hl : Fr.recsOk l) (hb : 1 ≤ b.length ∧ b.length ≤ 65535) : lcnt (l ++ [b]) ≤ lcnt l + (2 + b.length + 55) / 56 ∧ lcnt l ≤ lcnt (l ++ [b]) := by
  have h2 : Fr.recsOk (l ++ [b]) := fun x hx => by
    rcases List.mem_append.1 hx with hx | hx
    · exact hl x hx
    · rw [List.mem_singleton.1 hx]; exact hb
  rw [lcnt_ok hl, lcnt_ok h2, Fr.cnt, Fr.cnt, Fr.stream_snoc, List.length_append, List.length_append, Fr.be_length]
  omega
/-- Behind so many rounds. -/
structure LeftI (w0 w : World) (B : Nat) (d : Dq.Dk) (G : Nat) (L : Lg) (S : List (List UInt8)) (s : Fr.St) (k : Nat) : Prop where
  sys : Sys No w0.heap.size w0 w B d G L
  on : On d L S s
  secs : L.secs = 600
  first : L.first = 1
  epoch : L.epoch = 1
  used : L.end_ + lcnt L.wait ≤ 6 * k
  len : L.l.length = k
  stops : d.stops = false
set_option maxHeartbeats 1600000 in
theorem walLeft_walk (v : Value) (ns : List Int) (w : World) (hT : Rc.Tab w) (hv : IsInts w v ns) :
    Calls Tryd.prog 4 #[v] w fun e w' => e = .returned (.bool true) ∧ Below w.heap.size w w' := by
  obtain ⟨iu, hiu, hz0, hz1, hz2⟩ := info_parts infoU8w
  obtain ⟨av, cv, rfl, _, hcv⟩ := hv
  replace hcv := Lib.hid hcv
  by_cases t1 : (20 : Int) < (ns.length : Nat)
  · go_enter Tryd.func4, Tryd.ntmps4
    go_wp2_with fail
    refine (alive_true w hT).mono ?_
    rintro e w1 ⟨rfl, b1⟩
    go_wp2
    go_ret
    exact ⟨rfl, b1⟩
  have hon := Lib.hid (on_new 700 1 600 1 (by omega) (by omega) (by omega) (by omega))
  have hns : ns.length ≤ 20 := by omega
  go_enter Tryd.func4, Tryd.ntmps4
  go_wp2_with fail
  refine (alive_true w hT).mono ?_
  rintro e w1 ⟨rfl, b1⟩
  replace b1 := Lib.hid b1
  go_wp2_with fail
  refine (Dq.iNew (H := w.heap.size) (w0 := w) 700 (by omega) (by omega) b1.out b1.out.size).mono ?_
  rintro e w2 ⟨B, rfl, hD⟩
  have hT2 := hT.more hD.was.1
  replace hD := Lib.hid hD
  go_wp2_with fail
  refine (sOpen hT2 hD.out hon.out rfl (by show 0 < 1; omega)).mono ?_
  rintro e w3 ⟨G, rfl, hS, b3⟩
  have hI : LeftI w w3 B (Dq.dnew 700) G ⟨1, 600, 1, [], [], 0⟩ [] Fr.st0 0 := ⟨hS, hon.out, rfl, rfl, rfl, by show 0 + lcnt [] ≤ 6 * 0; have : lcnt [] = 0 := rfl; omega, rfl, rfl⟩
  replace hI := Lib.hid hI
  clear b3 hD b1 hT2 hon hS
  go_wp2
  go_loopg [35] ns.length (fun gg i wr => ∃ k : Nat, gg + k = ns.length ∧ i = .int .i64 (k : Int) ∧ Aside (∃ d L S s, LeftI w wr B d G L S s k))
  case atStart => exact ⟨0, rfl, rfl, _, _, _, _, hI.out⟩
  case round =>
    obtain ⟨k, hgk, rfl, hA⟩ := hrel
    obtain ⟨d, L, S, s, hI⟩ := hA.out
    clear hA
    by_cases hlt : k < ns.length
    · obtain ⟨ab, ao, rfl, hc, hwf⟩ := hcv.out k hlt
      obtain ⟨n, hn⟩ : ∃ n, n = ns[k] := ⟨_, rfl⟩
      rw [← hn] at hc hwf
      have hab := World.block_lt_of_cell? w _ hc
      have hcr : wr.cell? ⟨ab, ao + k, none⟩ = some (.int .i64 n) := (World.cell?_of_block (w := w) (hI.sys.was.1.block _ hab)).trans hc
      have hki : (k : Int) < ns.length := by omega
      have hwn := wf_i64 hwf
      replace hI := Lib.hid hI
      clear hc hwf hn
      by_cases n1 : n < 0
      · have hb := Lib.hid hI.out.sys.was.1
        go_wp2
        go_ret
        exact ⟨rfl, hb.out⟩
      by_cases n2 : 255 < n
      · have hb := Lib.hid hI.out.sys.was.1
        go_wp2
        go_ret
        exact ⟨rfl, hb.out⟩
      obtain ⟨z, rfl⟩ := Int.eq_ofNat_of_zero_le (show 0 ≤ n by omega)
      have hz : z ≤ 255 := by omega
      have CL := sLeft hI.out.sys (by rw [hI.out.secs]; omega) (by have := hI.out.used; omega) (by have := hI.out.on.stream_le; omega)
      obtain ⟨v0, hv0⟩ : ∃ v0 : Int, v0 = (L.secs : Int) - L.end_ - lcnt L.wait := ⟨_, rfl⟩
      rw [← hv0] at CL
      replace CL := Lib.hid CL
      replace hv0 := Lib.hid hv0
      go_wp2_with fail
      refine CL.out.mono ?_
      rintro e w4 ⟨rfl, b4⟩
      have hS4 := Lib.hid (hI.out.sys.more b4)
      clear CL b4 hcr
      go_wp2_with (at_make; refine wpList_make_full _ rfl _ _ 29 rfl w4.heap.size 5 iu (.int .u8 0) 1 Tryd.underlying29 hiu hz0 hz1 _ _ _ _ z rfl rfl rfl rfl (by rw [hz2]; omega) (by unfold maxLen; omega) (Nat.le_refl _) ?_; intro w5 hown hgrow; have hb := zeros_madeW hown hgrow; have hcnv := hb.2; have hbel := Lib.hid hb.1; clear hb hown hgrow)
      have hS5 := hS4.out.more hbel.out
      have hT5 := hT.more hS5.was.1
      have hok : Rc.RecOk (rK 1 0 (List.replicate z 0)) := rK_ok (by omega) (by omega) (by simpa using hz)
      have hlr : (Rc.enc (rK 1 0 (List.replicate z 0))).length = 32 + z := by rw [rK_len, List.length_replicate]
      obtain ⟨q1, q2⟩ := lcnt_snoc (b := Rc.enc (rK 1 0 (List.replicate z 0))) hI.out.on.waitOk (by rw [hlr]; omega)
      rw [hlr] at q1
      have hus := hI.out.used
      have hse := hI.out.secs
      have hfit : L.end_ + lcnt (L.wait ++ [Rc.enc (rK 1 0 (List.replicate z 0))]) ≤ L.secs := by omega
      have on2 := hI.out.on.app hok hfit
      have hst2 := on2.stream_le
      obtain ⟨L2, hL2⟩ : ∃ L2 : Lg, L2 = { L with l := L.l ++ [rK 1 0 (List.replicate z 0)], wait := L.wait ++ [Rc.enc (rK 1 0 (List.replicate z 0))] } := ⟨_, rfl⟩
      have C := sAppend hS5 hT5 (rK_at 1 0 (List.replicate z 0) _) (by rw [hI.out.len]; omega) (by omega) (by omega) (by have := hI.out.on.stream_le; omega) (lapp_ok hok hfit)
      rw [← hL2] at C on2 hst2
      have e1 : L2.secs = 600 := by rw [hL2]; exact hse
      have e2 : L2.end_ = L.end_ := by rw [hL2]
      have e3 : L2.first = 1 := by rw [hL2]; exact hI.out.first
      have e4 : L2.epoch = 1 := by rw [hL2]; exact hI.out.epoch
      have e5 : L2.l.length = k + 1 := by rw [hL2]; show (L.l ++ [_]).length = k + 1; simp [hI.out.len]
      have e6 : lcnt L2.wait = lcnt (L.wait ++ [Rc.enc (rK 1 0 (List.replicate z 0))]) := by rw [hL2]
      have hst0 := hI.out.stops
      rw [← e6] at q1 q2
      obtain ⟨v2, hv2⟩ : ∃ v2 : Int, v2 = (L2.secs : Int) - L2.end_ - lcnt L2.wait := ⟨_, rfl⟩
      have b0 : 0 ≤ v0 ∧ v0 ≤ 600 := by rw [hv0.out]; omega
      have b2 : 0 ≤ v2 ∧ v2 ≤ 600 := by rw [hv2]; omega
      have d1 : ¬ v0 < v2 := by rw [hv0.out, hv2]; omega
      have d2 : ¬ v2 < v0 - (34 + (z : Int) + 56 - 1) / 56 := by rw [hv0.out, hv2]; omega
      have hI2 : ∀ w', Sys No w.heap.size w w' B d G L2 → LeftI w w' B d G L2 S s (k + 1) := fun w' h => ⟨h, on2, e1, e3, e4, by omega, e5, hst0⟩
      obtain ⟨d3, S3, s3, f1, on3, f3, _⟩ := on2.flush_any hst0
      have hI3 : ∀ w', Sys No w.heap.size w w' B d3 G { L2 with wait := [], end_ := L2.end_ + lcnt L2.wait } → LeftI w w' B d3 G { L2 with wait := [], end_ := L2.end_ + lcnt L2.wait } S3 s3 (k + 1) := fun w' h => ⟨h, on3, e1, e3, e4, by show L2.end_ + lcnt L2.wait + lcnt [] ≤ 6 * (k + 1); have : lcnt [] = 0 := rfl; omega, e5, f3⟩
      have hpd : d.pend.length ≤ 900000 := by rw [hI.out.on.pend]; exact Nat.zero_le _
      have e7 : L2.end_ ≤ 120 := by omega
      have e8 : lcnt L2.wait ≤ 600 := by omega
      have e9 : (((L2.secs : Int) - ((L2.end_ + lcnt L2.wait : Nat) : Int) - ((lcnt [] : Nat) : Int)) = v2) := by rw [hv2]; have : lcnt [] = 0 := rfl; omega
      replace C := Lib.hid C
      replace hI2 := Lib.hid hI2
      replace hI3 := Lib.hid hI3
      replace f1 := Lib.hid f1
      replace hv2 := Lib.hid hv2
      replace hst2 := Lib.hid hst2
      replace e1 := Lib.hid e1
      replace e3 := Lib.hid e3
      replace e4 := Lib.hid e4
      replace e5 := Lib.hid e5
      replace e7 := Lib.hid e7
      replace e9 := Lib.hid e9
      clear hI hS4 hbel hcnv hS5 hT5 hok hlr q1 q2 hus hse hfit on2 on3 hL2 e2 e6 e8 hst0 f3
      go_wp2_with fail
      refine C.out.mono ?_
      rintro e w6 ⟨rfl, hS6⟩
      have CL := sLeft hS6 (by rw [e1.out]; omega) (by have := e7.out; omega) (by have := hst2.out; omega)
      rw [← hv2.out] at CL
      replace hS6 := Lib.hid hS6
      replace CL := Lib.hid CL
      clear C
      go_wp2_with fail
      refine CL.out.mono ?_
      rintro e w7 ⟨rfl, b7⟩
      have hS7 := hS6.out.more b7
      have CL2 := sLeft hS7 (by rw [e1.out]; omega) (by have := e7.out; omega) (by have := hst2.out; omega)
      rw [← hv2.out] at CL2
      replace hS7 := Lib.hid hS7
      replace CL2 := Lib.hid CL2
      clear hS6 CL b7
      go_wp2_with fail
      refine CL2.out.mono ?_
      rintro e w8 ⟨rfl, b8⟩
      have hS8 := hS7.out.more b8
      clear hS7 CL2 b8
      by_cases hk3 : (k : Int) % 3 = 2
      · have CL := sLeft hS8 (by rw [e1.out]; omega) (by have := e7.out; omega) (by have := hst2.out; omega)
        rw [← hv2.out] at CL
        replace hS8 := Lib.hid hS8
        replace CL := Lib.hid CL
        go_wp2_with fail
        refine CL.out.mono ?_
        rintro e w9 ⟨rfl, b9⟩
        have hS9 := hS8.out.more b9
        have CF := sFlush hS9 (by have := hst2.out; omega) (by rw [e3.out]; omega) (by have := e7.out; omega) (by rw [e4.out]; omega) hpd f1.out
        replace CF := Lib.hid CF
        clear hS8 hS9 b9 CL f1
        go_wp2_with fail
        refine CF.out.mono ?_
        rintro e w10 ⟨rfl, hS10⟩
        have CL := sLeft hS10 (by show L2.secs ≤ 4000; rw [e1.out]; omega) (by show L2.end_ + lcnt L2.wait ≤ 4000; have := hv2.out; have := e1.out; omega) (by show (Fr.stream []).length ≤ 1000000; simp [Fr.stream])
        simp only at CL
        rw [e9.out] at CL
        replace hS10 := Lib.hid hS10
        replace CL := Lib.hid CL
        clear CF
        go_wp2_with fail
        refine CL.out.mono ?_
        rintro e w11 ⟨rfl, b11⟩
        have hN := Lib.hid (hI3.out _ (hS10.out.more b11))
        clear CL b11 hS10 hI2 hI3
        go_wp2
        go_roundg (ns.length - (k + 1))
        case measure => omega
        case rel => exact ⟨k + 1, by omega, by go_num, _, _, _, _, hN.out⟩
      · have hN := Lib.hid (hI2.out _ hS8)
        clear hS8 hI2 hI3 f1
        go_wp2
        go_roundg (ns.length - (k + 1))
        case measure => omega
        case rel => exact ⟨k + 1, by omega, by go_num, _, _, _, _, hN.out⟩
    · obtain rfl : k = ns.length := by omega
      have hb := Lib.hid hI.sys.was.1
      clear hI
      go_wp2
      go_ret
      exact ⟨rfl, hb.out⟩
end Go.Proofs.YtofejnhnnmnfpaaDoor
