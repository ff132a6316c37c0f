/- The walk of the law WalEpochs. No condition but the table of spaces. -/
import Derived.Test.YtofejnhnnmnfpaaDoorWlR
import Derived.Deep.LoopGhost
import Derived.Deep.RegionLaw
import Derived.Deep.RegionHeld3
namespace Go.Proofs.YtofejnhnnmnfpaaDoor
set_option maxRecDepth 100000
open Go.RowKit
/-- A log that has the first n of the records. -/
structure OnE (d : Dq.Dk) (L : Lg) (S : List (List UInt8)) (s : Fr.St) (rs : List Rc.Rec) (e n : Nat) : Prop where
  on : On d L S s
  first : L.first = 7
  secs : L.secs = 1100
  epoch : L.epoch = e
  stops : d.stops = false
  all : L.l = rs.take n
  le : n ≤ rs.length
/-- A disk on which a log lies, to be opened in epoch e. -/
def EpO (d : Dq.Dk) (rs : List Rc.Rec) (e n : Nat) : Prop := d.stops = false ∧ n ≤ rs.length ∧ ∃ en S s, On d ⟨7, 1100, e, rs.take n, [], en⟩ S s ∧ s.last < e
section
variable {d : Dq.Dk} {L : Lg} {S : List (List UInt8)} {s : Fr.St} {rs : List Rc.Rec} {e n : Nat}
theorem OnE.len (h : OnE d L S s rs e n) : L.l.length = n := by rw [h.all, List.length_take]; have := h.le; omega
theorem OnE.wlen (h : OnE d L S s rs e n) : L.wait.length ≤ L.l.length := by have := h.on.lens; omega
theorem EpO.start (rs : List Rc.Rec) : EpO (Dq.dnew 1200) rs 1 0 :=
  ⟨rfl, Nat.zero_le _, 0, [], Fr.st0, on_new 1200 7 1100 1 (by omega) (by omega) (by omega) (by omega), by show 0 < 1; omega⟩
theorem OnE.to (h : OnE d L S s rs e n) (x : Int) : ∃ L' d' S' s', lto L d x = (L', d', 0) ∧ OnE d' L' S' s' rs e n ∧ ((n : Int) ≤ x → L'.wait = []) := by
  have hl := h.len
  have hw := h.wlen
  by_cases c : ((L.l.length - L.wait.length : Nat) : Int) < x
  · obtain ⟨d', S', s', f1, on3, f3, _⟩ := h.on.flush_any h.stops
    exact ⟨_, d', S', s', by rw [lto, if_pos c]; exact f1, ⟨on3, h.first, h.secs, h.epoch, f3, h.all, h.le⟩, fun _ => rfl⟩
  · refine ⟨L, d, S, s, by rw [lto, if_neg c], h, fun hx => ?_⟩
    have : L.wait.length = 0 := by omega
    exact List.length_eq_zero_iff.1 this
theorem OnE.app (h : OnE d L S s rs e n) (hn : n < rs.length) (hok : Rc.RecOk rs[n]) : (∃ L', lapp L rs[n] = (L', (n : Int) + 1, 0) ∧ OnE d L' S s rs e (n + 1)) ∨ lapp L rs[n] = (L, 0, 7) := by
  have hl := h.len
  by_cases c : L.end_ + lcnt (L.wait ++ [Rc.enc rs[n]]) ≤ L.secs
  · refine .inl ⟨_, by rw [lapp_ok hok c, hl], h.on.app hok c, h.first, h.secs, h.epoch, h.stops, ?_, hn⟩
    show L.l ++ [rs[n]] = rs.take (n + 1)
    rw [h.all, List.take_succ_eq_append_getElem hn]
  · exact .inr (lapp_full hok (by omega))
theorem OnE.small (h : OnE d L S s rs e n) (hr : rs.length ≤ 16) (he : e ≤ 100) : L.l.length ≤ 16 ∧ L.secs ≤ 4000 ∧ L.end_ ≤ 4000 ∧ (Fr.stream L.wait).length ≤ 224000 ∧ L.first ≤ 100000 ∧ L.epoch ≤ 4294967295 ∧ d.pend.length ≤ 900000 ∧ L.wait.length ≤ L.l.length := by
  have h1 := h.len
  have h2 := h.le
  have h3 := h.secs
  have h4 := h.first
  have h5 := h.epoch
  have h6 := h.on.fit
  have h7 := h.on.stream_le
  refine ⟨by omega, by omega, by omega, h7, by omega, by omega, by rw [h.on.pend]; exact Nat.zero_le _, h.wlen⟩
/-- One record more, whatever it is; then the log is left. -/
theorem OnE.leave (h : OnE d L S s rs e n) (hw : L.wait = []) {r : Rc.Rec} (hok : Rc.RecOk r) (he : e + 1 ≤ 4294967295) : ∃ L' m x, lapp L r = (L', m, x) ∧ EpO d rs (e + 1) n := by
  have hl := h.len
  have hs : s.last ≤ L.epoch := h.on.slast
  have hse : s.epoch ≤ L.epoch := h.on.sep
  have ee := h.epoch
  have key : ∀ L' : Lg, On d L' S s → L'.first = 7 → L'.secs = 1100 → L'.l.take n = rs.take n → L'.l.length = n + L'.wait.length → EpO d rs (e + 1) n := by
    intro L' on' f1 f2 f3 f4
    have := on'.opened (e + 1) (by omega) (by omega) he n f4
    rw [f1, f2, f3] at this
    exact ⟨h.stops, h.le, _, S, s, this, by omega⟩
  by_cases c : L.end_ + lcnt (L.wait ++ [Rc.enc r]) ≤ L.secs
  · refine ⟨_, _, _, lapp_ok hok c, key _ (h.on.app hok c) h.first h.secs ?_ ?_⟩
    · show (L.l ++ [r]).take n = rs.take n
      rw [List.take_append_of_le_length (by omega), h.all, List.take_take, Nat.min_self]
    · show (L.l ++ [r]).length = n + (L.wait ++ [Rc.enc r]).length
      rw [hw]; simp [hl]
  · refine ⟨_, _, _, lapp_full hok (by omega), key _ h.on h.first h.secs ?_ ?_⟩
    · rw [h.all, List.take_take, Nat.min_self]
    · rw [hw]; simp [hl]
theorem EpO.open_ (h : EpO d rs e n) : ∃ L S s, OnE d L S s rs e n ∧ L = ⟨7, 1100, e, rs.take n, [], L.end_⟩ ∧ s.last < e := by
  obtain ⟨h1, h2, en, S, s, on, hl⟩ := h
  exact ⟨_, S, s, ⟨on, rfl, rfl, rfl, h1, rfl, h2⟩, rfl, hl⟩
/-- For one more opening. -/
theorem EpO.later (h : EpO d rs e n) (f : Nat) (hf : e ≤ f) (hf' : f ≤ 4294967295) : EpO d rs f n := by
  obtain ⟨h1, h2, en, S, s, on, hl⟩ := h
  have := on.opened f (by omega) (by have : s.epoch ≤ e := on.sep; omega) hf' n (by show (rs.take n).length = n + 0; rw [List.length_take]; omega)
  simp only [List.take_take, Nat.min_self] at this
  exact ⟨h1, h2, en, S, s, this, by omega⟩
end
theorem below_drewN' {B : Nat} {w w' : World} (h : Below B w w') (n : Nat) : Below B w (w'.drewN n) := ⟨h.os, h.tape, h.output, h.size, h.block⟩
set_option maxHeartbeats 6400000 in
theorem walEpochs_walk (v : Value) (rs : List Rc.Rec) (per : Int) (w : World) (hT : Rc.Tab w) (hv : Rc.IsRecs w v rs) (q1 : (Lit.int .i64 per).wf = true) :
    Calls Tryd.prog 6 #[v, .int .i64 per] w fun e w' => e = .returned (.bool true) ∧ Below w.heap.size w w' := by
  have r1 := wf_i64 q1
  clear r1 q1
  obtain ⟨av, cv, rfl, hbig, hcv⟩ := hv
  replace hcv := Lib.hid hcv
  by_cases t1 : (16 : Int) < (rs.length : Nat)
  · go_enter Tryd.func6, Tryd.ntmps6
    go_wp2_with fail
    refine (alive_true w hT).mono ?_
    rintro e w1 ⟨rfl, b1⟩
    go_wp2
    go_ret
    exact ⟨rfl, b1⟩
  by_cases t2 : per < 1
  · go_enter Tryd.func6, Tryd.ntmps6
    go_wp2_with fail
    refine (alive_true w hT).mono ?_
    rintro e w1 ⟨rfl, b1⟩
    go_wp2
    go_ret
    exact ⟨rfl, b1⟩
  by_cases t3 : 5 < per
  · go_enter Tryd.func6, Tryd.ntmps6
    go_wp2_with fail
    refine (alive_true w hT).mono ?_
    rintro e w1 ⟨rfl, b1⟩
    go_wp2
    go_ret
    exact ⟨rfl, b1⟩
  obtain ⟨p, rfl⟩ := Int.eq_ofNat_of_zero_le (show 0 ≤ per by omega)
  have hp : 1 ≤ p ∧ p ≤ 5 := by omega
  have hlen : rs.length ≤ 16 := by omega
  have hE0 := Lib.hid (EpO.start rs)
  go_enter Tryd.func6, Tryd.ntmps6
  go_wp2_with fail
  refine (alive_true w hT).mono ?_
  rintro e w1 ⟨rfl, b1⟩
  replace b1 := Lib.hid b1
  go_wp2_with fail
  refine (Dq.iNew (H := w.heap.size) (w0 := w) 1200 (by omega) (by omega) b1.out b1.out.size).mono ?_
  rintro e w2 ⟨B, rfl, hD⟩
  replace hD := Lib.hid hD
  clear b1
  go_wp2
  go_loopg [6, 7] 17 (fun gg n k wr => ∃ nn kk : Nat, gg + kk = 17 ∧ n = .int .i64 (nn : Int) ∧ k = .int .i64 (kk : Int) ∧ Aside (∃ d, nn = min (kk * p) rs.length ∧ EpO d rs (kk + 1) nn ∧ Dq.DIn w.heap.size w wr B d))
  case atStart => exact ⟨0, 0, rfl, rfl, rfl, _, by simp, hE0.out, hD.out⟩
  case round =>
    obtain ⟨nn, kk, hgk, rfl, rfl, hA⟩ := hrel
    obtain ⟨d, hnn, hE, hDr⟩ := hA.out
    clear hA hE0 hD
    have hTr := hT.more hDr.was.1
    obtain ⟨kp, hkp⟩ : ∃ kp, kp = kk * p := ⟨_, rfl⟩
    rw [← hkp] at hnn
    have hkpI : (kk : Int) * (p : Int) = (kp : Int) := by rw [hkp]; exact (Int.natCast_mul _ _).symm
    have hkpI1 : ((kk : Int) + 1) * (p : Int) = (kp : Int) + p := by rw [Int.add_mul, hkpI]; omega
    have hkk : kk ≤ kp := by rw [hkp]; exact Nat.le_mul_of_pos_right _ (by omega)
    have hk85 : kp ≤ 17 * 5 := by rw [hkp]; exact Nat.mul_le_mul (by omega) hp.2
    have hkb : 0 ≤ (kk : Int) * (p : Int) ∧ (kk : Int) * (p : Int) ≤ 85 := by rw [hkpI]; omega
    replace hkp := Lib.hid hkp
    replace hkpI := Lib.hid hkpI
    replace hkpI1 := Lib.hid hkpI1
    by_cases hlt : kp < rs.length
    · obtain rfl : nn = kp := by omega
      clear hnn
      obtain ⟨L, S, s, hOn, hL, hlast⟩ := hE.open_
      have CO := sOpen hTr hDr hOn.on (by rw [hL]) (by rw [hOn.epoch]; exact hlast)
      rw [hOn.first, hOn.secs, hOn.epoch, show (((kk + 1 : Nat)) : Int) = (kk : Int) + 1 by omega] at CO
      have hki : (kk : Int) * (p : Int) < rs.length := by rw [hkpI.out]; omega
      replace CO := Lib.hid CO
      replace hOn := Lib.hid hOn
      replace hL := Lib.hid hL
      clear hE hDr hTr hlast
      go_wp2_with fail
      refine CO.out.mono ?_
      rintro e w3 ⟨G, rfl, hS, b3⟩
      have hlL := hOn.out.len
      have C1 := sLast hS
      rw [hlL] at C1
      have C2 := sDurable hS (by rw [hlL]; omega) hOn.out.wlen
      have hwz : L.l.length - L.wait.length = nn := by rw [hlL, hL.out]; rfl
      rw [hwz] at C2
      have C3 := fun w' (hb : Below w3.heap.size w3 w') => sEpoch (hS.more hb)
      rw [hOn.out.epoch, show (((kk + 1 : Nat)) : Int) = (kk : Int) + 1 by omega] at C3
      replace hS := Lib.hid hS
      replace C1 := Lib.hid C1
      replace C2 := Lib.hid C2
      replace C3 := Lib.hid C3
      clear CO b3 hlL hwz
      go_wp2_with fail
      refine C1.out.mono ?_
      rintro e w4 ⟨rfl, hz⟩
      obtain rfl := hz.symm
      clear hz C1
      go_wp2_with fail
      refine C2.out.mono ?_
      rintro e w4 ⟨rfl, b4⟩
      have C4 := Lib.hid (C3.out _ b4)
      have hS4 := Lib.hid (hS.out.more b4)
      clear C2 C3 hS b4
      go_wp2_with fail
      refine C4.out.mono ?_
      rintro e w5 ⟨rfl, hz⟩
      obtain rfl := hz.symm
      clear hz C4
      go_wp2
      go_loopg [6, 10] (rs.length - nn) (fun gg n i wr => ∃ ii : Nat, gg + ii = rs.length ∧ n = .int .i64 (ii : Int) ∧ i = .int .i64 (ii : Int) ∧ Aside (∃ d L S s, nn ≤ ii ∧ ii ≤ nn + p ∧ OnE d L S s rs (kk + 1) ii ∧ Sys No w.heap.size w wr B d G L))
      case atStart => exact ⟨nn, by omega, rfl, by rw [hkpI.out], d, L, S, s, Nat.le_refl _, by omega, hOn.out, hS4.out⟩
      case round =>
        obtain ⟨ii, hgi, rfl, rfl, hA⟩ := hrel
        obtain ⟨d, L, S, s, hi1, hi2, hOn, hSr⟩ := hA.out
        clear hA hS4
        have hTr := hT.more hSr.was.1
        have hkc := hkpI1.out
        have hkb1 : 0 ≤ ((kk : Int) + 1) * (p : Int) ∧ ((kk : Int) + 1) * (p : Int) ≤ 100 := by rw [hkpI1.out]; omega
        by_cases hii : ii < rs.length ∧ ii < nn + p
        · obtain ⟨hi3, hi4⟩ := hii
          have hki3 : (ii : Int) < rs.length := by omega
          have hki4 : (ii : Int) < ((kk : Int) + 1) * (p : Int) := by rw [hkpI1.out]; omega
          obtain ⟨lb1, lb2, lb3, lb4⟩ := row_sz (hcv.out ii hi3)
          obtain ⟨ab, ao, p1, q1, p2, q2, p3, q3, p4, q4, rfl, hab, hR, hc⟩ := row_at (hcv.out ii hi3) hSr.was.1
          have hsm := hOn.small hlen (by omega)
          have happ := hOn.app hi3
          obtain ⟨r, hr⟩ : ∃ r, r = rs[ii] := ⟨_, rfl⟩
          rw [← hr] at hR hc lb1 lb2 lb3 lb4 happ
          obtain ⟨⟨c0, c1, c2, c3, c4, c5, c6⟩, ⟨c7, c8, c9, c10, c11, c12, c13⟩⟩ := hc wr (Below.refl _ _)
          have C1 := Rc.light_any _ _ _ _ _ r wr hR lb1 lb2
          replace C1 := Lib.hid C1
          replace hc := Lib.hid hc
          replace hR := Lib.hid hR
          replace hr := Lib.hid hr
          replace hOn := Lib.hid hOn
          replace hSr := Lib.hid hSr
          replace happ := Lib.hid happ
          replace hsm := Lib.hid hsm
          replace lb4 := Lib.hid lb4
          clear hTr hkc
          go_wp2_with fail
          refine C1.out.mono ?_
          rintro e w3 ⟨b, rfl, _, b3⟩
          have hab3 := Nat.lt_of_lt_of_le hab b3.size
          clear C1 c0 c1 c2 c3 c4 c5 c6 c7 c8 c9 c10 c11 c12 c13
          cases b with
          | false =>
            have hfin := Lib.hid (hSr.out.more b3).was.1
            clear b3
            go_wp2
            go_ret
            exact ⟨rfl, hfin.out⟩
          | true =>
            obtain ⟨⟨c0, c1, c2, c3, c4, c5, c6⟩, ⟨c7, c8, c9, c10, c11, c12, c13⟩⟩ := hc.out _ b3
            have C2 := Rc.rright_any _ _ _ _ _ r w3 (hR.out.more b3) lb3 lb4.out
            cases hok : Rc.recOk r with
            | false =>
              rw [hok] at C2
              replace C2 := Lib.hid C2
              replace b3 := Lib.hid b3
              clear hok
              go_wp2_with fail
              refine C2.out.mono ?_
              rintro e w4 ⟨rfl, b4⟩
              have hfin := Lib.hid ((hSr.out.more b3.out).more b4).was.1
              clear b4 C2 c0 c1 c2 c3 c4 c5 c6 c7 c8 c9 c10 c11 c12 c13
              go_wp2
              go_ret
              exact ⟨rfl, hfin.out⟩
            | true =>
              rw [hok] at C2
              have hrok := (Rc.recOk_iff r).1 hok
              replace C2 := Lib.hid C2
              replace b3 := Lib.hid b3
              replace hrok := Lib.hid hrok
              clear hok
              go_wp2_with fail
              refine C2.out.mono ?_
              rintro e w4 ⟨rfl, b4⟩
              have b34 := b3.out.trans (b4.mono b3.out.size)
              have hS4 := hSr.out.more b34
              have hT4 := hT.more hS4.was.1
              have hab4 := Nat.lt_of_lt_of_le hab b34.size
              clear C2 c0 c1 c2 c3 c4 c5 c6 c7 c8 c9 c10 c11 c12 c13
              obtain ⟨⟨c0, c1, c2, c3, c4, c5, c6⟩, ⟨c7, c8, c9, c10, c11, c12, c13⟩⟩ := hc.out _ b34
              obtain ⟨m1, m2, m3, m4, m5, m6, m7, m8⟩ := hsm.out
              rcases happ.out hrok.out with ⟨L2, e2, hOn2⟩ | e2
              · have C3 := sAppend hS4 hT4 (hR.out.more b34) (by omega) m2 m3 (by omega) e2
                obtain ⟨L3, d3, S3, s3, e3, hOn3, _⟩ := hOn2.to (ii : Int)
                obtain ⟨m1', m2', m3', m4', m5', m6', m7', m8'⟩ := hOn2.small hlen (by omega)
                have C4 := fun w' (h : Sys No w.heap.size w w' B d G L2) => sTo (ii : Int) h (by omega) m8' (by omega) m5' m3' m6' m7' e3
                replace C3 := Lib.hid C3
                replace C4 := Lib.hid C4
                replace hOn3 := Lib.hid hOn3
                replace b34 := Lib.hid b34
                clear hS4 hT4 e2 e3 hOn2 m1 m2 m3 m4 m5 m6 m7 m8 m1' m2' m3' m4' m5' m6' m7' m8' b3 b4 happ hOn hSr
                go_wp2_with fail
                refine C3.out.mono ?_
                rintro e w5 ⟨rfl, hS5⟩
                have C5 := Lib.hid (C4.out _ hS5)
                clear hS5 C3 C4 c0 c1 c2 c3 c4 c5 c6 c7 c8 c9 c10 c11 c12 c13
                go_wp2_with fail
                refine C5.out.mono ?_
                rintro e w6 ⟨rfl, hS6⟩
                replace hS6 := Lib.hid hS6
                clear C5
                go_wp2
                go_roundg (rs.length - (ii + 1))
                case measure => omega
                case rel => exact ⟨ii + 1, by omega, by go_num, by go_num, _, _, _, _, by omega, by omega, hOn3.out, hS6.out⟩
              · have C3 := sAppend hS4 hT4 (hR.out.more b34) (by omega) m2 m3 (by omega) e2
                replace C3 := Lib.hid C3
                clear hS4 hT4 e2 m1 m2 m3 m4 m5 m6 m7 m8 b3 b4 happ hOn hSr
                replace b34 := Lib.hid b34
                go_wp2_with fail
                refine C3.out.mono ?_
                rintro e w5 ⟨rfl, hS5⟩
                have hfin := Lib.hid hS5.was.1
                clear hS5 C3 c0 c1 c2 c3 c4 c5 c6 c7 c8 c9 c10 c11 c12 c13
                go_wp2
                go_ret
                exact ⟨rfl, hfin.out⟩
        have hout : ¬ ((ii : Int) < rs.length) ∨ ((ii : Int) < rs.length ∧ ¬ ((ii : Int) < ((kk : Int) + 1) * (p : Int))) := by rw [hkpI1.out]; omega
        have hmin : ii = min ((kk + 1) * p) rs.length := by rw [Nat.succ_mul, ← hkp.out]; omega
        obtain ⟨m1, m2, m3, m4, m5, m6, m7, m8⟩ := hOn.small hlen (by omega)
        obtain ⟨L3, d3, S3, s3, e3, hOn3, hw3⟩ := hOn.to (ii : Int)
        replace hw3 := hw3 (Int.le_refl _)
        have C6 := sTo (ii : Int) hSr (by omega) m8 (by omega) m5 m3 m6 m7 e3
        obtain ⟨n1, n2, n3, n4, n5, n6, n7, n8⟩ := hOn3.small hlen (by omega)
        obtain ⟨L4, m, x, e4, hE4⟩ := hOn3.leave hw3 (rK_ok (k := 5) (t := 9) (key := []) (by omega) (by omega) (by simp)) (by omega)
        have hd3 : L3.l.length - L3.wait.length = ii := by rw [hw3, hOn3.len]; rfl
        replace C6 := Lib.hid C6
        replace e4 := Lib.hid e4
        replace hE4 := Lib.hid hE4
        replace hd3 := Lib.hid hd3
        replace hmin := Lib.hid hmin
        clear hSr hOn hOn3 hw3 e3 hTr m1 m2 m3 m4 m5 m6 m7 m8 n5 n6 n7
        replace hkc := Lib.hid hkc
        rcases hout with ho | ⟨ho, ho2⟩
        all_goals
          go_wp2_with fail
          refine C6.out.mono ?_
          rintro e w6 ⟨rfl, hS6⟩
          clear C6
          have C7 := sDurable hS6 (by omega) n8
          rw [hd3.out] at C7
          replace hS6 := Lib.hid hS6
          replace C7 := Lib.hid C7
          go_wp2_with fail
          refine C7.out.mono ?_
          rintro e w7 ⟨rfl, b7⟩
          have hS7 := hS6.out.more b7
          have C8 := sAppend hS7 (hT.more hS7.was.1) (rK_at 5 9 [] _) (by omega) n2 n3 (by omega) e4.out
          replace C8 := Lib.hid C8
          clear hS7 b7 C7 hS6
          go_wp2_with fail
          refine C8.out.mono ?_
          rintro e w8 ⟨rfl, hS8⟩
          have hD8 := Lib.hid hS8.din
          clear hS8 C8
          go_wp2
          go_roundg (17 - (kk + 1))
          case measure => omega
          case rel => exact ⟨ii, kk + 1, by omega, rfl, by go_num, d3, hmin.out, hE4.out, hD8.out⟩
    · obtain rfl : nn = rs.length := by omega
      have hkc : ¬ ((kk : Int) * (p : Int) < rs.length) := by rw [hkpI.out]; omega
      obtain ⟨L, S, s, hOn, hL, hlast⟩ := (hE.later 99 (by omega) (by omega)).open_
      have CO := sOpen hTr hDr hOn.on (by rw [hL]) (by rw [hOn.epoch]; exact hlast)
      rw [hOn.first, hOn.secs, hOn.epoch] at CO
      replace CO := Lib.hid CO
      replace hOn := Lib.hid hOn
      replace hL := Lib.hid hL
      clear hE hDr hTr hlast hnn
      go_wp2_with fail
      refine CO.out.mono ?_
      rintro e w3 ⟨G, rfl, hS, b3⟩
      have C1 := sLast hS
      rw [hOn.out.len] at C1
      replace hS := Lib.hid hS
      replace C1 := Lib.hid C1
      clear CO b3
      go_wp2_with fail
      refine C1.out.mono ?_
      rintro e w4 ⟨rfl, hz⟩
      obtain rfl := hz.symm
      clear hz C1
      go_wp2
      go_loopg [15] rs.length (fun gg i wr => ∃ j : Nat, gg + j = rs.length ∧ i = .int .i64 ((j : Int) + 1) ∧ Aside (Sys No w.heap.size w wr B d G L))
      case atStart => exact ⟨0, rfl, rfl, hS.out⟩
      case round =>
        obtain ⟨j, hgj, rfl, hA⟩ := hrel
        have hSr := hA.out
        clear hA hS
        by_cases hj : j < rs.length
        · have hlL : L.l.length = rs.length := hOn.out.len
          have hjL : j < L.l.length := by omega
          obtain ⟨lb1, lb2, lb3, lb4⟩ := row_sz (hcv.out j hj)
          obtain ⟨ab, ao, p1, q1, p2, q2, p3, q3, p4, q4, rfl, hab, hR, hc⟩ := row_at (hcv.out j hj) hSr.was.1
          obtain ⟨r, hr⟩ : ∃ r, r = rs[j] := ⟨_, rfl⟩
          have hrL : r = L.l[j] := by rw [hr]; simp [hOn.out.all]
          have hok : Rc.RecOk r := by rw [hrL]; exact hOn.out.on.ok _ (List.getElem_mem hjL)
          rw [← hr] at hR hc
          have C := sAt_yes hSr (hT.more hSr.was.1) j hjL (by omega) r hrL hok
          have hj1 : (j : Int) + 1 ≤ rs.length := by omega
          have hj2 : (0 : Int) ≤ j := by omega
          have hj3 : (j : Int) < rs.length := by omega
          have hje : (j : Int) + 1 - 1 = (j : Int) := by omega
          have hjw2 : IntKind.i64.wrap (j : Int) = (j : Int) := IntWalk.i64_in _ (by omega)
          have hjw : IntKind.i64.wrap ((j : Int) + 1 - 1) = (j : Int) := by rw [IntWalk.i64_in _ (by omega)]; omega
          replace C := Lib.hid C
          replace hc := Lib.hid hc
          replace hR := Lib.hid hR
          replace hr := Lib.hid hr
          replace hok := Lib.hid hok
          replace hSr := Lib.hid hSr
          clear lb1 lb2 lb3 lb4 hrL hlL hjL
          go_wp2_with fail
          refine C.out.mono ?_
          rintro e w9 ⟨a1, e1, a2, e2, a3, e3, a4, e4, rfl, hR9, b9⟩
          obtain ⟨oR, hoR⟩ : ∃ oR, oR = Obj.cells #[.int .i64 r.kind, .int .i64 r.tx, .int .i64 r.prev, .int .i64 r.next, .string (mk r.key), .bool r.had, .string (mk r.old.key), .string (mk r.old.val), .int .i64 r.old.blob, .int .i64 r.old.size, .slice a1 r.pages.length e1, .slice a2 r.pats.length e2, .slice a3 r.txs.length e3, .slice a4 r.dirty.length e4] 37 := ⟨_, rfl⟩
          obtain ⟨wX, hX⟩ : ∃ wX, wX = w9.alloc oR := ⟨_, rfl⟩
          have q9 : Below wr.heap.size wr wX := by rw [hX]; exact b9.alloc b9.size oR
          have hS9 := hSr.out.more q9
          have h9 : wX.heap[w9.heap.size]? = some (.cells #[.int .i64 r.kind, .int .i64 r.tx, .int .i64 r.prev, .int .i64 r.next, .string (mk r.key), .bool r.had, .string (mk r.old.key), .string (mk r.old.val), .int .i64 r.old.blob, .int .i64 r.old.size, .slice a1 r.pages.length e1, .slice a2 r.pats.length e2, .slice a3 r.txs.length e3, .slice a4 r.dirty.length e4] 37 (0, 0)) := by rw [hX, hoR]; exact heap_alloc_new w9 _
          obtain ⟨⟨d0, d1, d2, d3, d4, d5, d6⟩, ⟨d7, d8, d9, d10, d11, d12, d13⟩, hlz⟩ := Rc.rec_cells h9
          obtain ⟨⟨c0, c1, c2, c3, c4, c5, c6⟩, ⟨c7, c8, c9, c10, c11, c12, c13⟩⟩ := hc.out _ q9
          have hR9' := hR9.more (w' := wX) (by rw [hX]; exact (Below.refl _ _).alloc (Nat.le_refl _) oR)
          have hmk : ∀ w', Below wX.heap.size wX w' → (fun w' => (w'.cell? ⟨w9.heap.size, 0, none⟩ = some (.int .i64 r.kind) ∧ w'.cell? ⟨w9.heap.size, 1, none⟩ = some (.int .i64 r.tx) ∧ w'.cell? ⟨w9.heap.size, 2, none⟩ = some (.int .i64 r.prev) ∧ w'.cell? ⟨w9.heap.size, 3, none⟩ = some (.int .i64 r.next) ∧ w'.cell? ⟨w9.heap.size, 4, none⟩ = some (.string (mk r.key)) ∧ w'.cell? ⟨w9.heap.size, 5, none⟩ = some (.bool r.had) ∧ w'.cell? ⟨w9.heap.size, 6, none⟩ = some (.string (mk r.old.key)) ∧ w'.cell? ⟨w9.heap.size, 7, none⟩ = some (.string (mk r.old.val)) ∧ w'.cell? ⟨w9.heap.size, 8, none⟩ = some (.int .i64 r.old.blob) ∧ w'.cell? ⟨w9.heap.size, 9, none⟩ = some (.int .i64 r.old.size) ∧ w'.cell? ⟨w9.heap.size, 10, none⟩ = some (.slice a1 r.pages.length e1) ∧ w'.cell? ⟨w9.heap.size, 11, none⟩ = some (.slice a2 r.pats.length e2) ∧ w'.cell? ⟨w9.heap.size, 12, none⟩ = some (.slice a3 r.txs.length e3) ∧ w'.cell? ⟨w9.heap.size, 13, none⟩ = some (.slice a4 r.dirty.length e4)) ∧ (w'.cell? ⟨ab, ao + j * 14, none⟩ = some (.int .i64 r.kind) ∧ w'.cell? ⟨ab, ao + j * 14 + 1, none⟩ = some (.int .i64 r.tx) ∧ w'.cell? ⟨ab, ao + j * 14 + 2, none⟩ = some (.int .i64 r.prev) ∧ w'.cell? ⟨ab, ao + j * 14 + 3, none⟩ = some (.int .i64 r.next) ∧ w'.cell? ⟨ab, ao + j * 14 + 4, none⟩ = some (.string (mk r.key)) ∧ w'.cell? ⟨ab, ao + j * 14 + 5, none⟩ = some (.bool r.had) ∧ w'.cell? ⟨ab, ao + j * 14 + 6, none⟩ = some (.string (mk r.old.key)) ∧ w'.cell? ⟨ab, ao + j * 14 + 7, none⟩ = some (.string (mk r.old.val)) ∧ w'.cell? ⟨ab, ao + j * 14 + 8, none⟩ = some (.int .i64 r.old.blob) ∧ w'.cell? ⟨ab, ao + j * 14 + 9, none⟩ = some (.int .i64 r.old.size) ∧ w'.cell? ⟨ab, ao + j * 14 + 10, none⟩ = some (.slice p1 r.pages.length q1) ∧ w'.cell? ⟨ab, ao + j * 14 + 11, none⟩ = some (.slice p2 r.pats.length q2) ∧ w'.cell? ⟨ab, ao + j * 14 + 12, none⟩ = some (.slice p3 r.txs.length q3) ∧ w'.cell? ⟨ab, ao + j * 14 + 13, none⟩ = some (.slice p4 r.dirty.length q4)) ∧ Hid (Below wX.heap.size wX w')) w' := fun w' hb => ⟨⟨wl_cell hb d0, wl_cell hb d1, wl_cell hb d2, wl_cell hb d3, wl_cell hb d4, wl_cell hb d5, wl_cell hb d6, wl_cell hb d7, wl_cell hb d8, wl_cell hb d9, wl_cell hb d10, wl_cell hb d11, wl_cell hb d12, wl_cell hb d13⟩, ⟨wl_cell hb c0, wl_cell hb c1, wl_cell hb c2, wl_cell hb c3, wl_cell hb c4, wl_cell hb c5, wl_cell hb c6, wl_cell hb c7, wl_cell hb c8, wl_cell hb c9, wl_cell hb c10, wl_cell hb c11, wl_cell hb c12, wl_cell hb c13⟩, Lib.hid hb⟩
          have C2 := fun w' (hs : (fun w' => (w'.cell? ⟨w9.heap.size, 0, none⟩ = some (.int .i64 r.kind) ∧ w'.cell? ⟨w9.heap.size, 1, none⟩ = some (.int .i64 r.tx) ∧ w'.cell? ⟨w9.heap.size, 2, none⟩ = some (.int .i64 r.prev) ∧ w'.cell? ⟨w9.heap.size, 3, none⟩ = some (.int .i64 r.next) ∧ w'.cell? ⟨w9.heap.size, 4, none⟩ = some (.string (mk r.key)) ∧ w'.cell? ⟨w9.heap.size, 5, none⟩ = some (.bool r.had) ∧ w'.cell? ⟨w9.heap.size, 6, none⟩ = some (.string (mk r.old.key)) ∧ w'.cell? ⟨w9.heap.size, 7, none⟩ = some (.string (mk r.old.val)) ∧ w'.cell? ⟨w9.heap.size, 8, none⟩ = some (.int .i64 r.old.blob) ∧ w'.cell? ⟨w9.heap.size, 9, none⟩ = some (.int .i64 r.old.size) ∧ w'.cell? ⟨w9.heap.size, 10, none⟩ = some (.slice a1 r.pages.length e1) ∧ w'.cell? ⟨w9.heap.size, 11, none⟩ = some (.slice a2 r.pats.length e2) ∧ w'.cell? ⟨w9.heap.size, 12, none⟩ = some (.slice a3 r.txs.length e3) ∧ w'.cell? ⟨w9.heap.size, 13, none⟩ = some (.slice a4 r.dirty.length e4)) ∧ (w'.cell? ⟨ab, ao + j * 14, none⟩ = some (.int .i64 r.kind) ∧ w'.cell? ⟨ab, ao + j * 14 + 1, none⟩ = some (.int .i64 r.tx) ∧ w'.cell? ⟨ab, ao + j * 14 + 2, none⟩ = some (.int .i64 r.prev) ∧ w'.cell? ⟨ab, ao + j * 14 + 3, none⟩ = some (.int .i64 r.next) ∧ w'.cell? ⟨ab, ao + j * 14 + 4, none⟩ = some (.string (mk r.key)) ∧ w'.cell? ⟨ab, ao + j * 14 + 5, none⟩ = some (.bool r.had) ∧ w'.cell? ⟨ab, ao + j * 14 + 6, none⟩ = some (.string (mk r.old.key)) ∧ w'.cell? ⟨ab, ao + j * 14 + 7, none⟩ = some (.string (mk r.old.val)) ∧ w'.cell? ⟨ab, ao + j * 14 + 8, none⟩ = some (.int .i64 r.old.blob) ∧ w'.cell? ⟨ab, ao + j * 14 + 9, none⟩ = some (.int .i64 r.old.size) ∧ w'.cell? ⟨ab, ao + j * 14 + 10, none⟩ = some (.slice p1 r.pages.length q1) ∧ w'.cell? ⟨ab, ao + j * 14 + 11, none⟩ = some (.slice p2 r.pats.length q2) ∧ w'.cell? ⟨ab, ao + j * 14 + 12, none⟩ = some (.slice p3 r.txs.length q3) ∧ w'.cell? ⟨ab, ao + j * 14 + 13, none⟩ = some (.slice p4 r.dirty.length q4)) ∧ Hid (Below wX.heap.size wX w')) w') => (same_self _ _ _ _ _ _ _ _ _ _ r w' (hR9'.more hs.2.2.out) (hR.out.more (q9.trans (hs.2.2.out.mono q9.size))) hok.out).mono (fun e w'' ⟨(he : _), (hb : Below w'.heap.size w' w'')⟩ => And.intro he (hmk w'' (hs.2.2.out.trans (hb.mono hs.2.2.out.size))))
          replace C2 := Lib.hid C2
          replace hmk := Lib.hid hmk
          replace hS9 := Lib.hid hS9
          replace hoR := Lib.hid hoR
          replace hX := Lib.hid hX
          clear C hR9 hR9' b9 q9 h9 hR hc hlz d0 d1 d2 d3 d4 d5 d6 d7 d8 d9 d10 d11 d12 d13 c0 c1 c2 c3 c4 c5 c6 c7 c8 c9 c10 c11 c12 c13
          go_upto_region 32 with (fail)
          rw [← hoR.out, ← hX.out]
          go_region_held3 (fun w' => (w'.cell? ⟨w9.heap.size, 0, none⟩ = some (.int .i64 r.kind) ∧ w'.cell? ⟨w9.heap.size, 1, none⟩ = some (.int .i64 r.tx) ∧ w'.cell? ⟨w9.heap.size, 2, none⟩ = some (.int .i64 r.prev) ∧ w'.cell? ⟨w9.heap.size, 3, none⟩ = some (.int .i64 r.next) ∧ w'.cell? ⟨w9.heap.size, 4, none⟩ = some (.string (mk r.key)) ∧ w'.cell? ⟨w9.heap.size, 5, none⟩ = some (.bool r.had) ∧ w'.cell? ⟨w9.heap.size, 6, none⟩ = some (.string (mk r.old.key)) ∧ w'.cell? ⟨w9.heap.size, 7, none⟩ = some (.string (mk r.old.val)) ∧ w'.cell? ⟨w9.heap.size, 8, none⟩ = some (.int .i64 r.old.blob) ∧ w'.cell? ⟨w9.heap.size, 9, none⟩ = some (.int .i64 r.old.size) ∧ w'.cell? ⟨w9.heap.size, 10, none⟩ = some (.slice a1 r.pages.length e1) ∧ w'.cell? ⟨w9.heap.size, 11, none⟩ = some (.slice a2 r.pats.length e2) ∧ w'.cell? ⟨w9.heap.size, 12, none⟩ = some (.slice a3 r.txs.length e3) ∧ w'.cell? ⟨w9.heap.size, 13, none⟩ = some (.slice a4 r.dirty.length e4)) ∧ (w'.cell? ⟨ab, ao + j * 14, none⟩ = some (.int .i64 r.kind) ∧ w'.cell? ⟨ab, ao + j * 14 + 1, none⟩ = some (.int .i64 r.tx) ∧ w'.cell? ⟨ab, ao + j * 14 + 2, none⟩ = some (.int .i64 r.prev) ∧ w'.cell? ⟨ab, ao + j * 14 + 3, none⟩ = some (.int .i64 r.next) ∧ w'.cell? ⟨ab, ao + j * 14 + 4, none⟩ = some (.string (mk r.key)) ∧ w'.cell? ⟨ab, ao + j * 14 + 5, none⟩ = some (.bool r.had) ∧ w'.cell? ⟨ab, ao + j * 14 + 6, none⟩ = some (.string (mk r.old.key)) ∧ w'.cell? ⟨ab, ao + j * 14 + 7, none⟩ = some (.string (mk r.old.val)) ∧ w'.cell? ⟨ab, ao + j * 14 + 8, none⟩ = some (.int .i64 r.old.blob) ∧ w'.cell? ⟨ab, ao + j * 14 + 9, none⟩ = some (.int .i64 r.old.size) ∧ w'.cell? ⟨ab, ao + j * 14 + 10, none⟩ = some (.slice p1 r.pages.length q1) ∧ w'.cell? ⟨ab, ao + j * 14 + 11, none⟩ = some (.slice p2 r.pats.length q2) ∧ w'.cell? ⟨ab, ao + j * 14 + 12, none⟩ = some (.slice p3 r.txs.length q3) ∧ w'.cell? ⟨ab, ao + j * 14 + 13, none⟩ = some (.slice p4 r.dirty.length q4)) ∧ Hid (Below wX.heap.size wX w')) (first | assumption | exact hmk.out _ (Below.refl _ _).drew | exact hmk.out _ (Below.refl _ _)) (first | (go_at_call 22; refine (C2.out _ (by assumption)).mono ?_; rintro e wq ⟨rfl, hq⟩))
          all_goals
            have hSn := Lib.hid (hS9.out.more hq.2.2.out)
            clear hq hS9 C2 hmk
            go_wp2
            go_roundg (rs.length - (j + 1))
            case measure => omega
            case rel => exact ⟨j + 1, by omega, by rw [show ((j : Int) + 1 + 1) = ((j + 1 : Nat) : Int) + 1 by omega], hSn.out⟩
        · obtain rfl : j = rs.length := by omega
          have hjf : ¬ ((rs.length : Int) + 1 ≤ rs.length) := by omega
          have hfin := Lib.hid hSr.was.1
          clear hSr
          go_wp2
          go_ret
          exact ⟨rfl, hfin.out⟩
end Go.Proofs.YtofejnhnnmnfpaaDoor
