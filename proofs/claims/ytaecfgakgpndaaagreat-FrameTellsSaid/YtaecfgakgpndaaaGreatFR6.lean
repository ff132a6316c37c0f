/- Sectors read, by the document. No condition. -/
import Derived.Test.YtaecfgakgpndaaaGreatFR3
import Derived.Test.YtaecfgakgpndaaaGreatFTake
import Derived.Test.YtaecfgakgpndaaaGreatBkT
namespace Go.Proofs.YtaecfgakgpndaaaGreat
open Go.RowKit
attribute [local go_sem] mk_size mk_append

theorem dec_bounds {b : List UInt8} {x : Sec} (h : dec b = some x) : 1 ≤ x.epoch ∧ x.epoch ≤ 4294967295 ∧ x.index ≤ 65535 ∧ x.pay.length ≤ 56 := by
  unfold dec at h
  split at h
  · next c =>
    cases h
    have := secOk_iff.1 c.2.2.1
    omega
  · cases h

theorem eat_dead {s : St} {x : Sec} {b1 : List UInt8} {k xe : Nat} {xf : Bool} {P : List UInt8} (h1 : b1 = (if xf = true then [] else s.b) ++ P) (h2 : (xf || s.open_) = false) (he : xe = x.epoch) (hf : xf = x.fresh) (hP : P = x.pay) (hat : s.at_ = k) : eat s x = ⟨b1, false, k + 1, xe, s.l, s.end_, s.last⟩ := by
  subst h1 he hf hP hat
  unfold eat
  rw [if_neg (by rw [h2]; decide)]
theorem eat_live {s : St} {x : Sec} {b1 : List UInt8} {k xe : Nat} {xf op : Bool} {P rest : List UInt8} {outs : List (List UInt8)} (h1 : b1 = (if xf = true then [] else s.b) ++ P) (h2 : (xf || s.open_) = true) (he : xe = x.epoch) (hf : xf = x.fresh) (hP : P = x.pay) (hat : s.at_ = k) (h3 : drain b1 = (outs, rest, op)) :
    eat s x = ⟨rest, op, k + 1, xe, s.l ++ outs, if outs = [] then s.end_ else k + 1, if outs = [] then s.last else xe⟩ := by
  subst h1 he hf hP hat
  unfold eat
  rw [if_pos h2, h3]
theorem app_cell {wr w5 : World} {o : Obj} {base : Nat} {e : TypeId} {sz : Nat} {v v5 : Value} {n m : Nat} {xs ys : List Value} {a : Addr} {u : Value} (hc : wr.cell? a = some u) (hn : ∀ q, v.ownBlock = some q → q ≠ a.block) (hp : AppPost (wr.alloc o) base e sz v n xs m ys v5 w5) : w5.cell? a = some u := by
  have hC : Chg (fun k => v.ownBlock = some k) wr w5 := ((Chg.refl _ wr).alloc o).trans hp.chg (fun _ _ h => h)
  exact (World.cell?_of_block (w := wr) (hC.block _ (World.block_lt_of_cell? wr _ hc) (fun e => hn _ e rfl))).trans hc
theorem app_apart {wr w5 : World} {o : Obj} {base : Nat} {e : TypeId} {sz : Nat} {v v5 : Value} {n m : Nat} {xs ys : List Value} {a : Addr} {u : Value} (hc : wr.cell? a = some u) (hn : ∀ q, v.ownBlock = some q → q ≠ a.block) (hp : AppPost (wr.alloc o) base e sz v n xs m ys v5 w5) : ∀ q, v5.ownBlock = some q → q ≠ a.block := by
  intro q hq
  rcases hp.blk hq with h | h
  · exact hn q h
  · have := World.block_lt_of_cell? wr _ hc
    simp at h
    omega
set_option maxRecDepth 100000 in
set_option maxHeartbeats 6400000 in
theorem rscan_any (a : Option Addr) (c : Nat) (l : List (List UInt8)) (r : St) (w : World) (hl : l.length ≤ 1000000) (hlen : ∀ b ∈ l, b.length ≤ 140737488351232) (ha : TAt w a l) (hr : scan st0 l = r) :
    Calls Tryz.prog 15 #[.slice a l.length c] w fun e w' => ∃ v, e = .returned (.tuple #[v, .int .i64 r.end_, .int .i64 r.last]) ∧ w'.ownsRow w.heap.size 9 1 v r.l.length (scells r.l) ∧ Below w.heap.size w w' := by
  obtain ⟨ii, hii, hz0, hz1, hz2⟩ := info_parts Tryz.infoStr
  obtain ⟨n, hn⟩ : ∃ n, n = l.length := ⟨_, rfl⟩
  rw [← hn] at hl ⊢
  replace ha := Lib.hid ha
  replace hlen := Lib.hid hlen
  replace hr := Lib.hid hr
  replace hn := Lib.hid hn
  go_enter Tryz.func15, Tryz.ntmps15
  go_wp2
  go_loopw [5, 6, 7, 8, 9, 10, 11, 12, 13, 14] (fun vo nx ep la op de i _ _ _ wr => ∃ (k : Nat) (s : St) (dd : Bool), k ≤ n ∧ i = .int .i64 k ∧ nx = .int .i64 s.end_ ∧ ep = .int .i64 s.last ∧ la = .int .i64 s.epoch ∧ op = .string (mk s.b) ∧ de = .bool dd ∧ Aside (scan s (l.drop k) = r ∧ s.at_ = k ∧ (dd = !s.open_ ∨ s.epoch = 0) ∧ 3 * s.l.length + s.b.length ≤ 56 * k ∧ wr.ownsRow w.heap.size 9 1 vo s.l.length (scells s.l) ∧ Below w.heap.size w wr)) (fun _ _ _ _ _ _ i _ _ _ _ => n - (intOf i).toNat)
  case atStart => exact ⟨0, st0, false, Nat.zero_le _, rfl, rfl, rfl, rfl, rfl, rfl, hr.out, rfl, .inr rfl, by simp [st0], World.ownsRow_nil _ _ _ _, Below.refl _ _⟩
  case round =>
    obtain ⟨k, s, dd, hk, rfl, rfl, rfl, rfl, rfl, rfl, hA⟩ := hrel
    obtain ⟨hsc, hat, hdd, hsz, ho, hb⟩ := hA.out
    replace ho := Lib.hid ho
    replace hb := Lib.hid hb
    replace hsc := Lib.hid hsc
    clear hA
    by_cases hlt : k < n
    · have hkl : k < l.length := by rw [← hn.out]; exact hlt
      have hki : (k : Int) < n := by omega
      obtain ⟨bE, oE, rfl, hcE⟩ := ha.out k hkl
      have hc1 : wr.cell? ⟨bE, oE + k, none⟩ = some (.string (mk l[k])) := (World.cell?_of_block (w := w) (hb.out.block _ (World.block_lt_of_cell? w _ hcE))).trans hcE
      have hdr : l.drop k = l[k] :: l.drop (k + 1) := List.drop_eq_getElem_cons hkl
      have hrl := hlen.out l[k] (List.getElem_mem hkl)
      obtain ⟨q, hq⟩ : ∃ q, q = l[k] := ⟨_, rfl⟩
      rw [← hq] at hc1 hdr hrl
      obtain ⟨dq, hdq⟩ : ∃ dq, dec q = dq := ⟨_, rfl⟩
      have hsc2 := hsc.out
      rw [hdr] at hsc2
      clear hq hdr hcE
      cases dq with
      | none =>
        have hend : s = r := by rw [← hsc2, scan_none]; rw [Go.Proofs.YtaecfgakgpndaaaGreat.take, hdq]
        subst hend
        replace hsc2 := Lib.hid hsc2
        go_wp2_with fail
        refine (sget_any q none _ hrl hdq).mono ?_
        rintro e w2 ⟨rfl, hb2⟩
        have ho2 := Lib.hid ((Chg.of_below (S := fun _ => False) hb2).row ho.out (fun _ _ => id))
        have hbb2 := Lib.hid (hb.out.trans (hb2.mono hb.out.size))
        simp only [secV]
        clear hb2
        go_wp2
        go_ret3
        exact ⟨_, rfl, ho2.out.alloc _, hbb2.out.alloc (by have := hbb2.out.size; omega) _⟩
      | some x =>
        obtain ⟨x1, x2, x3, x4⟩ := dec_bounds hdq
        have htake : Go.Proofs.YtaecfgakgpndaaaGreat.take s q = if fits s x = true then some (eat s x) else none := by rw [Go.Proofs.YtaecfgakgpndaaaGreat.take, hdq]
        by_cases hf : fits s x = true
        · rw [hf, if_pos rfl] at htake
          rw [scan_some _ htake] at hsc2
          have hf2 : x.index = k ∧ s.epoch ≤ x.epoch ∧ (x.epoch = s.epoch ∨ x.fresh = true) := by
            have := hf
            simp only [fits, Bool.and_eq_true, Bool.or_eq_true, decide_eq_true_eq, hat] at this
            exact ⟨this.1.1, this.1.2, this.2⟩
          obtain ⟨f1, f2, f3⟩ := hf2
          have g1 : ((x.index : Int) != k) = false := by rw [f1]; simp
          have g2 : ¬ ((x.epoch : Int) < s.epoch) := by omega
          obtain ⟨P, hP⟩ : ∃ P, P = x.pay := ⟨_, rfl⟩
          obtain ⟨xe, hep⟩ : ∃ xe, xe = x.epoch := ⟨_, rfl⟩
          obtain ⟨xf, hxf⟩ : ∃ xf, xf = x.fresh := ⟨_, rfl⟩
          obtain ⟨b1, hb1⟩ : ∃ b1, b1 = (if xf then [] else s.b) ++ P := ⟨_, rfl⟩
          rw [← hP] at x4
          rw [← hep] at x1 x2 g2 f2 f3
          rw [← hxf] at f3
          have hb1l : 3 * s.l.length + b1.length ≤ 56 * (k + 1) := by
            rw [hb1, List.length_append]
            cases xf <;> simp <;> omega
          have hdead : ∀ d1, d1 = (if xf then false else dd) → d1 = !(xf || s.open_) := fun d1 h => by
            subst h
            cases xf with
            | true => rfl
            | false =>
              have h1 : xe = s.epoch := by simpa using f3
              rcases hdd with h | h
              · simp [h]
              · omega
          go_wp2_with fail
          refine (sget_any q (some x) _ hrl hdq).mono ?_
          rintro e w2 ⟨rfl, hb2⟩
          have ho2 := Lib.hid ((Chg.of_below (S := fun _ => False) hb2).row ho.out (fun _ _ => id))
          have hbb2 := Lib.hid (hb.out.trans (hb2.mono hb.out.size))
          simp only [secV]
          rw [← hP, ← hep, ← hxf, f1]
          have hn63 : ((xe : Int) == s.epoch) = true ∨ xf = true := f3.imp (fun h => by rw [h]; simp) id
          have hO3 := Lib.hid (⟨hsc2, hb1, hdead, hb1l, hep, hxf, hP, f2, f3, hdd, hsz, hat⟩ : (scan (eat s x) (l.drop (k + 1)) = r) ∧ b1 = (if xf then [] else s.b) ++ P ∧ (∀ d1, d1 = (if xf then false else dd) → d1 = !(xf || s.open_)) ∧ 3 * s.l.length + b1.length ≤ 56 * (k + 1) ∧ xe = x.epoch ∧ xf = x.fresh ∧ P = x.pay ∧ s.epoch ≤ xe ∧ (xe = s.epoch ∨ xf = true) ∧ (dd = !s.open_ ∨ s.epoch = 0) ∧ 3 * s.l.length + s.b.length ≤ 56 * k ∧ s.at_ = k)
          replace htake := Lib.hid htake
          replace hf := Lib.hid hf
          replace hdq := Lib.hid hdq
          have hcat : ¬ 9223372036854775807 < s.b.length + P.length := by omega
          clear hb2 hb1 hdead hb1l hep hxf hP f1 f3 hdd hsc2 x1 x2 hrl g1
          cases xf with
          | true =>
            have e1 : (({ data := #[] } : ByteArray) ++ mk P) = mk b1 := by rw [hO3.out.2.1]; rfl
            by_cases g4 : ((xe : Int) != s.epoch) = true
            · go_wp2
              try rw [e1]
              replace hcat := Lib.hid hcat
              replace g4 := Lib.hid g4
              have hDD : false = !(true || s.open_) := hO3.out.2.2.1 false (by simp)
              have hl1 := hO3.out.2.2.2.1
              have hof := Lib.hid (fun (R : List UInt8) (w : World) => rof_any (R.take 2) w (by rw [List.length_take]; omega))
              replace hO3 := Lib.hid (show scan (eat s x) (l.drop (k + 1)) = r ∧ b1 = (if true = true then [] else s.b) ++ P ∧ xe = x.epoch ∧ true = x.fresh ∧ P = x.pay ∧ s.at_ = k from ⟨hO3.out.1, hO3.out.2.1, hO3.out.2.2.2.2.1, hO3.out.2.2.2.2.2.1, hO3.out.2.2.2.2.2.2.1, hO3.out.2.2.2.2.2.2.2.2.2.2.2⟩)
              have hcx0 : (w2.alloc (.cells #[.int .i64 xe, .int .i64 k, .bool true, .string (mk P)] 30)).cell? ⟨w2.heap.size, 0, none⟩ = some (.int .i64 xe) := cell_of (heap_alloc_new w2 _) rfl
              obtain ⟨w3, hw3⟩ : ∃ w3, w3 = w2.alloc (.cells #[.int .i64 xe, .int .i64 k, .bool true, .string (mk P)] 30) := ⟨_, rfl⟩
              have ho3 := ho2.out.alloc (.cells #[.int .i64 xe, .int .i64 k, .bool true, .string (mk P)] 30)
              rw [← hw3] at ho3
              have hbb3 : Below w.heap.size w w3 := by rw [hw3]; exact hbb2.out.alloc (by have := hbb2.out.size; omega) _
              have hcx : w3.cell? ⟨w2.heap.size, 0, none⟩ = some (.int .i64 xe) := by rw [hw3]; exact hcx0
              have hXB := Lib.hid (show w.heap.size ≤ w2.heap.size from hbb2.out.size)
              rw [← hw3]
              replace ho3 := Lib.hid ho3
              replace hbb3 := Lib.hid hbb3
              replace hcx := Lib.hid hcx
              have hxn := Lib.hid (fun q hq => (ho2.out.lt q hq).2)
              clear hw3 hcx0 ho2 hbb2 hc1
              have hop := Lib.hid (show (true || s.open_) = true from Bool.true_or _)
              clear hDD
              go_loopg [5, 6, 7, 9, 10, 14] b1.length (fun g vo nx ep op de _ wr2 => ∃ (outs : List (List UInt8)) (rest : List UInt8) (ne le : Nat), g = rest.length ∧ nx = .int .i64 ne ∧ ep = .int .i64 le ∧ op = .string (mk rest) ∧ de = .bool false ∧ Aside ((ne = (if outs = [] then s.end_ else k + 1) ∧ le = (if outs = [] then s.last else xe)) ∧ drain b1 = (outs ++ (drain rest).1, (drain rest).2.1, (drain rest).2.2) ∧ 3 * (s.l.length + outs.length) + rest.length ≤ 56 * (k + 1) ∧ wr2.ownsRow w.heap.size 9 1 vo (s.l ++ outs).length (scells (s.l ++ outs)) ∧ Below w.heap.size w wr2 ∧ wr2.cell? ⟨w2.heap.size, 0, none⟩ = some (.int .i64 xe) ∧ ∀ q, vo.ownBlock = some q → q ≠ w2.heap.size))
              case atStart => exact ⟨[], b1, s.end_, s.last, rfl, rfl, rfl, rfl, rfl, ⟨by simp, by simp⟩, by simp, by simpa using hl1, by rw [List.append_nil]; exact ho3.out, hbb3.out, hcx.out, fun q hq => by have := hxn.out q hq; omega⟩
              case round =>
                obtain ⟨outs, rest, ne, le, rfl, rfl, rfl, rfl, rfl, hA3⟩ := hrel
                obtain ⟨⟨hne, hle⟩, hdr, hlen3, ho4, hb4, hc4, hn4⟩ := hA3.out
                replace hne := Lib.hid hne
                replace hle := Lib.hid hle
                have hx2 : (mk rest).extract 0 2 = mk (rest.take 2) := mk_take rest 2
                by_cases c1 : rest.length < 2
                · have c1i : (rest.length : Int) < 2 := by omega
                  have E := eat_live hO3.out.2.1 hop.out hO3.out.2.2.1 hO3.out.2.2.2.1 hO3.out.2.2.2.2.1 hO3.out.2.2.2.2.2 (hdr.trans (by rw [drain_short c1, List.append_nil]))
                  have hsc3 := hO3.out.1
                  rw [E, ← hne.out, ← hle.out] at hsc3
                  replace hsc3 := Lib.hid hsc3
                  replace ho4 := Lib.hid ho4
                  replace hb4 := Lib.hid hb4
                  replace hdr := Lib.hid hdr
                  clear E hA3
                  go_wp2
                  go_roundw
                  case rel => exact ⟨k + 1, ⟨rest, true, k + 1, xe, s.l ++ outs, ne, le⟩, false, hlt, by go_num, rfl, rfl, rfl, rfl, rfl, hsc3.out, rfl, .inl rfl, by rw [List.length_append]; exact hlen3, ho4.out, hb4.out⟩
                  case measure => simp [intOf]; omega
                · have c1i : ¬ (rest.length : Int) < 2 := by omega
                  have c1j : (2 : Int) ≤ rest.length := by omega
                  obtain ⟨v, hv⟩ : ∃ v, v = val (rest.take 2) := ⟨_, rfl⟩
                  have hv6 : v < 65536 := by rw [hv]; have := val_lt (rest.take 2); have h2 : (rest.take 2).length = 2 := by { rw [List.length_take]; omega }; rw [h2] at this; omega
                  have hofv : ∀ w, Calls Tryz.prog 29 #[.string (mk (rest.take 2))] w fun e w' => e = .returned (.int .i64 v) ∧ w = w' := fun w => by rw [hv]; exact hof.out rest w
                  replace hofv := Lib.hid hofv
                  by_cases c2 : rest.length < 2 + v
                  · have c2i : ¬ ((2 : Int) + v ≤ rest.length) := by omega
                    have hv0 : val (rest.take 2) ≠ 0 := by rw [← hv]; omega
                    have c2v := c2
                    rw [hv] at c2v
                    have E := eat_live hO3.out.2.1 hop.out hO3.out.2.2.1 hO3.out.2.2.2.1 hO3.out.2.2.2.2.1 hO3.out.2.2.2.2.2 (hdr.trans (by rw [drain_part (by omega) hv0 c2v, List.append_nil]))
                    have hsc3 := hO3.out.1
                    rw [E, ← hne.out, ← hle.out] at hsc3
                    replace hsc3 := Lib.hid hsc3
                    replace ho4 := Lib.hid ho4
                    replace hb4 := Lib.hid hb4
                    replace hdr := Lib.hid hdr
                    clear E hA3
                    clear hv0 c2v
                    replace hv := Lib.hid hv
                    go_wp2_with fail
                    refine (hofv.out _).mono ?_
                    rintro e w5 ⟨rfl, hz⟩
                    obtain rfl := hz.symm
                    clear hz
                    go_wp2
                    go_roundw
                    case rel => exact ⟨k + 1, ⟨rest, true, k + 1, xe, s.l ++ outs, ne, le⟩, false, hlt, by go_num, rfl, rfl, rfl, rfl, rfl, hsc3.out, rfl, .inl rfl, by rw [List.length_append]; exact hlen3, ho4.out, hb4.out⟩
                    case measure => simp [intOf]; omega
                  · have c2i : ((2 : Int) + v ≤ rest.length) := by omega
                    by_cases c3 : v = 0
                    · have hv0 : val (rest.take 2) = 0 := by rw [← hv]; exact c3
                      have E := eat_live hO3.out.2.1 hop.out hO3.out.2.2.1 hO3.out.2.2.2.1 hO3.out.2.2.2.2.1 hO3.out.2.2.2.2.2 (hdr.trans (by rw [drain_dead (by omega) hv0, List.append_nil]))
                      have hsc3 := hO3.out.1
                      rw [E, ← hne.out, ← hle.out] at hsc3
                      replace hsc3 := Lib.hid hsc3
                      replace ho4 := Lib.hid ho4
                      replace hb4 := Lib.hid hb4
                      replace hdr := Lib.hid hdr
                      clear E hA3
                      clear hv0
                      replace hv := Lib.hid hv
                      subst c3
                      go_wp2_with fail
                      refine (hofv.out _).mono ?_
                      rintro e w5 ⟨rfl, hz⟩
                      obtain rfl := hz.symm
                      clear hz
                      go_wp2_with fail
                      refine (hofv.out _).mono ?_
                      rintro e w5 ⟨rfl, hz⟩
                      obtain rfl := hz.symm
                      clear hz
                      go_wp2
                      go_roundw
                      case rel => exact ⟨k + 1, ⟨rest, false, k + 1, xe, s.l ++ outs, ne, le⟩, true, hlt, by go_num, rfl, rfl, rfl, rfl, rfl, hsc3.out, rfl, .inl rfl, by rw [List.length_append]; exact hlen3, ho4.out, hb4.out⟩
                      case measure => simp [intOf]; omega
                    · have hdm := drain_more (b := rest) (by omega) (by rw [← hv]; exact c3) (by rw [← hv]; omega)
                      rw [← hv] at hdm
                      obtain ⟨p, hp⟩ : ∃ p, p = (rest.drop 2).take v := ⟨_, rfl⟩
                      obtain ⟨q2, hq2⟩ : ∃ q2, q2 = rest.drop (2 + v) := ⟨_, rfl⟩
                      obtain ⟨d, hd⟩ : ∃ d, d = 2 + v := ⟨_, rfl⟩
                      have hx3 : (mk rest).extract 2 d = mk p := by rw [mk_ext, hp, hd, Nat.add_sub_cancel_left]
                      have hx4 : (mk rest).extract d rest.length = mk q2 := by rw [hd, mk_drop _ _ (by omega), hq2]
                      have hdi : (2 : Int) + v = d := by omega
                      have hd2 : (2 : Int) ≤ d := by omega
                      have hd3 : (d : Int) ≤ rest.length := by omega
                      have hq2l : q2.length + 2 + v = rest.length := by rw [hq2, List.length_drop]; omega
                      have hdr2 := Lib.hid (show drain b1 = ((outs ++ [p]) ++ (drain q2).1, (drain q2).2.1, (drain q2).2.2) by rw [hdr, hdm, hp, hq2]; simp)
                      have hL2 := Lib.hid (show 3 * (s.l.length + (outs ++ [p]).length) + q2.length ≤ 56 * (k + 1) by rw [List.length_append]; simp; omega)
                      have hll : (s.l ++ outs).length ≤ 19000000 := by simp only [List.length_append]; omega
                      have hwl := Lib.hid (hb4.size)
                      have hBz := Lib.hid (World.block_lt_of_cell? wr _ hc4)
                      replace ho4 := Lib.hid ho4
                      replace hb4 := Lib.hid hb4
                      replace hn4 := Lib.hid hn4
                      have hc4h := Lib.hid hc4
                      replace hdr := Lib.hid hdr
                      replace hv := Lib.hid hv
                      have c3i : ((v : Int) == 0) = false := by simp; omega
                      replace hd := Lib.hid hd
                      clear hp hq2 hdm hA3 hc4 hdr c3 c2 c2i
                      go_wp2_with fail
                      refine (hofv.out _).mono ?_
                      rintro e w5 ⟨rfl, hz⟩
                      obtain rfl := hz.symm
                      clear hz
                      go_wp2_with fail
                      refine (hofv.out _).mono ?_
                      rintro e w5 ⟨rfl, hz⟩
                      obtain rfl := hz.symm
                      clear hz
                      go_wp2_with (at_builtin; refine wpList_append_rd rfl _ _ 24 rfl w.heap.size 9 ii (.string ByteArray.empty) 1 16 Tryz.underlying24 hii hz0 hz1 hz2 rfl (by decide) _ _ _ rfl (ho4.out.alloc _) _ 1 [.string (mk p)] rfl rfl (by go_simp; exact RdAt.new1T _ rfl) (by intro u hu; rw [List.mem_singleton.1 hu]; rfl) (by unfold maxLen; omega) (by omega) (by have := hwl.out; simp; omega) ?_; intro v5 w5 hp5; have hb5 := Lib.hid (grow_ownT ho4.out hb4.out hp5); have ho5 := Lib.hid hp5.1; have hc5 := app_cell hc4h.out hn4.out hp5; have hn5 := Lib.hid (app_apart hc4h.out hn4.out hp5); clear hp5)
                      go_quiet (fail)
                      go_wp2
                      go_roundg (q2.length)
                      case rel => exact ⟨outs ++ [p], q2, k + 1, xe, rfl, rfl, rfl, rfl, rfl, ⟨by simp, by simp⟩, hdr2.out, hL2.out, by rw [← List.append_assoc, scells_append, List.length_append]; exact ho5.out, bk_drewNT hb5.out _, hc5, hn5.out⟩
                      case measure => omega
            · go_wp2
              try rw [e1]
              replace hcat := Lib.hid hcat
              replace g4 := Lib.hid g4
              have hDD : false = !(true || s.open_) := hO3.out.2.2.1 false (by simp)
              have hl1 := hO3.out.2.2.2.1
              have hof := Lib.hid (fun (R : List UInt8) (w : World) => rof_any (R.take 2) w (by rw [List.length_take]; omega))
              replace hO3 := Lib.hid (show scan (eat s x) (l.drop (k + 1)) = r ∧ b1 = (if true = true then [] else s.b) ++ P ∧ xe = x.epoch ∧ true = x.fresh ∧ P = x.pay ∧ s.at_ = k from ⟨hO3.out.1, hO3.out.2.1, hO3.out.2.2.2.2.1, hO3.out.2.2.2.2.2.1, hO3.out.2.2.2.2.2.2.1, hO3.out.2.2.2.2.2.2.2.2.2.2.2⟩)
              have hcx0 : (w2.alloc (.cells #[.int .i64 xe, .int .i64 k, .bool true, .string (mk P)] 30)).cell? ⟨w2.heap.size, 0, none⟩ = some (.int .i64 xe) := cell_of (heap_alloc_new w2 _) rfl
              obtain ⟨w3, hw3⟩ : ∃ w3, w3 = w2.alloc (.cells #[.int .i64 xe, .int .i64 k, .bool true, .string (mk P)] 30) := ⟨_, rfl⟩
              have ho3 := ho2.out.alloc (.cells #[.int .i64 xe, .int .i64 k, .bool true, .string (mk P)] 30)
              rw [← hw3] at ho3
              have hbb3 : Below w.heap.size w w3 := by rw [hw3]; exact hbb2.out.alloc (by have := hbb2.out.size; omega) _
              have hcx : w3.cell? ⟨w2.heap.size, 0, none⟩ = some (.int .i64 xe) := by rw [hw3]; exact hcx0
              have hXB := Lib.hid (show w.heap.size ≤ w2.heap.size from hbb2.out.size)
              rw [← hw3]
              replace ho3 := Lib.hid ho3
              replace hbb3 := Lib.hid hbb3
              replace hcx := Lib.hid hcx
              have hxn := Lib.hid (fun q hq => (ho2.out.lt q hq).2)
              clear hw3 hcx0 ho2 hbb2 hc1
              have hop := Lib.hid (show (true || s.open_) = true from Bool.true_or _)
              clear hDD
              go_loopg [5, 6, 7, 9, 10, 14] b1.length (fun g vo nx ep op de _ wr2 => ∃ (outs : List (List UInt8)) (rest : List UInt8) (ne le : Nat), g = rest.length ∧ nx = .int .i64 ne ∧ ep = .int .i64 le ∧ op = .string (mk rest) ∧ de = .bool false ∧ Aside ((ne = (if outs = [] then s.end_ else k + 1) ∧ le = (if outs = [] then s.last else xe)) ∧ drain b1 = (outs ++ (drain rest).1, (drain rest).2.1, (drain rest).2.2) ∧ 3 * (s.l.length + outs.length) + rest.length ≤ 56 * (k + 1) ∧ wr2.ownsRow w.heap.size 9 1 vo (s.l ++ outs).length (scells (s.l ++ outs)) ∧ Below w.heap.size w wr2 ∧ wr2.cell? ⟨w2.heap.size, 0, none⟩ = some (.int .i64 xe) ∧ ∀ q, vo.ownBlock = some q → q ≠ w2.heap.size))
              case atStart => exact ⟨[], b1, s.end_, s.last, rfl, rfl, rfl, rfl, rfl, ⟨by simp, by simp⟩, by simp, by simpa using hl1, by rw [List.append_nil]; exact ho3.out, hbb3.out, hcx.out, fun q hq => by have := hxn.out q hq; omega⟩
              case round =>
                obtain ⟨outs, rest, ne, le, rfl, rfl, rfl, rfl, rfl, hA3⟩ := hrel
                obtain ⟨⟨hne, hle⟩, hdr, hlen3, ho4, hb4, hc4, hn4⟩ := hA3.out
                replace hne := Lib.hid hne
                replace hle := Lib.hid hle
                have hx2 : (mk rest).extract 0 2 = mk (rest.take 2) := mk_take rest 2
                by_cases c1 : rest.length < 2
                · have c1i : (rest.length : Int) < 2 := by omega
                  have E := eat_live hO3.out.2.1 hop.out hO3.out.2.2.1 hO3.out.2.2.2.1 hO3.out.2.2.2.2.1 hO3.out.2.2.2.2.2 (hdr.trans (by rw [drain_short c1, List.append_nil]))
                  have hsc3 := hO3.out.1
                  rw [E, ← hne.out, ← hle.out] at hsc3
                  replace hsc3 := Lib.hid hsc3
                  replace ho4 := Lib.hid ho4
                  replace hb4 := Lib.hid hb4
                  replace hdr := Lib.hid hdr
                  clear E hA3
                  go_wp2
                  go_roundw
                  case rel => exact ⟨k + 1, ⟨rest, true, k + 1, xe, s.l ++ outs, ne, le⟩, false, hlt, by go_num, rfl, rfl, rfl, rfl, rfl, hsc3.out, rfl, .inl rfl, by rw [List.length_append]; exact hlen3, ho4.out, hb4.out⟩
                  case measure => simp [intOf]; omega
                · have c1i : ¬ (rest.length : Int) < 2 := by omega
                  have c1j : (2 : Int) ≤ rest.length := by omega
                  obtain ⟨v, hv⟩ : ∃ v, v = val (rest.take 2) := ⟨_, rfl⟩
                  have hv6 : v < 65536 := by rw [hv]; have := val_lt (rest.take 2); have h2 : (rest.take 2).length = 2 := by { rw [List.length_take]; omega }; rw [h2] at this; omega
                  have hofv : ∀ w, Calls Tryz.prog 29 #[.string (mk (rest.take 2))] w fun e w' => e = .returned (.int .i64 v) ∧ w = w' := fun w => by rw [hv]; exact hof.out rest w
                  replace hofv := Lib.hid hofv
                  by_cases c2 : rest.length < 2 + v
                  · have c2i : ¬ ((2 : Int) + v ≤ rest.length) := by omega
                    have hv0 : val (rest.take 2) ≠ 0 := by rw [← hv]; omega
                    have c2v := c2
                    rw [hv] at c2v
                    have E := eat_live hO3.out.2.1 hop.out hO3.out.2.2.1 hO3.out.2.2.2.1 hO3.out.2.2.2.2.1 hO3.out.2.2.2.2.2 (hdr.trans (by rw [drain_part (by omega) hv0 c2v, List.append_nil]))
                    have hsc3 := hO3.out.1
                    rw [E, ← hne.out, ← hle.out] at hsc3
                    replace hsc3 := Lib.hid hsc3
                    replace ho4 := Lib.hid ho4
                    replace hb4 := Lib.hid hb4
                    replace hdr := Lib.hid hdr
                    clear E hA3
                    clear hv0 c2v
                    replace hv := Lib.hid hv
                    go_wp2_with fail
                    refine (hofv.out _).mono ?_
                    rintro e w5 ⟨rfl, hz⟩
                    obtain rfl := hz.symm
                    clear hz
                    go_wp2
                    go_roundw
                    case rel => exact ⟨k + 1, ⟨rest, true, k + 1, xe, s.l ++ outs, ne, le⟩, false, hlt, by go_num, rfl, rfl, rfl, rfl, rfl, hsc3.out, rfl, .inl rfl, by rw [List.length_append]; exact hlen3, ho4.out, hb4.out⟩
                    case measure => simp [intOf]; omega
                  · have c2i : ((2 : Int) + v ≤ rest.length) := by omega
                    by_cases c3 : v = 0
                    · have hv0 : val (rest.take 2) = 0 := by rw [← hv]; exact c3
                      have E := eat_live hO3.out.2.1 hop.out hO3.out.2.2.1 hO3.out.2.2.2.1 hO3.out.2.2.2.2.1 hO3.out.2.2.2.2.2 (hdr.trans (by rw [drain_dead (by omega) hv0, List.append_nil]))
                      have hsc3 := hO3.out.1
                      rw [E, ← hne.out, ← hle.out] at hsc3
                      replace hsc3 := Lib.hid hsc3
                      replace ho4 := Lib.hid ho4
                      replace hb4 := Lib.hid hb4
                      replace hdr := Lib.hid hdr
                      clear E hA3
                      clear hv0
                      replace hv := Lib.hid hv
                      subst c3
                      go_wp2_with fail
                      refine (hofv.out _).mono ?_
                      rintro e w5 ⟨rfl, hz⟩
                      obtain rfl := hz.symm
                      clear hz
                      go_wp2_with fail
                      refine (hofv.out _).mono ?_
                      rintro e w5 ⟨rfl, hz⟩
                      obtain rfl := hz.symm
                      clear hz
                      go_wp2
                      go_roundw
                      case rel => exact ⟨k + 1, ⟨rest, false, k + 1, xe, s.l ++ outs, ne, le⟩, true, hlt, by go_num, rfl, rfl, rfl, rfl, rfl, hsc3.out, rfl, .inl rfl, by rw [List.length_append]; exact hlen3, ho4.out, hb4.out⟩
                      case measure => simp [intOf]; omega
                    · have hdm := drain_more (b := rest) (by omega) (by rw [← hv]; exact c3) (by rw [← hv]; omega)
                      rw [← hv] at hdm
                      obtain ⟨p, hp⟩ : ∃ p, p = (rest.drop 2).take v := ⟨_, rfl⟩
                      obtain ⟨q2, hq2⟩ : ∃ q2, q2 = rest.drop (2 + v) := ⟨_, rfl⟩
                      obtain ⟨d, hd⟩ : ∃ d, d = 2 + v := ⟨_, rfl⟩
                      have hx3 : (mk rest).extract 2 d = mk p := by rw [mk_ext, hp, hd, Nat.add_sub_cancel_left]
                      have hx4 : (mk rest).extract d rest.length = mk q2 := by rw [hd, mk_drop _ _ (by omega), hq2]
                      have hdi : (2 : Int) + v = d := by omega
                      have hd2 : (2 : Int) ≤ d := by omega
                      have hd3 : (d : Int) ≤ rest.length := by omega
                      have hq2l : q2.length + 2 + v = rest.length := by rw [hq2, List.length_drop]; omega
                      have hdr2 := Lib.hid (show drain b1 = ((outs ++ [p]) ++ (drain q2).1, (drain q2).2.1, (drain q2).2.2) by rw [hdr, hdm, hp, hq2]; simp)
                      have hL2 := Lib.hid (show 3 * (s.l.length + (outs ++ [p]).length) + q2.length ≤ 56 * (k + 1) by rw [List.length_append]; simp; omega)
                      have hll : (s.l ++ outs).length ≤ 19000000 := by simp only [List.length_append]; omega
                      have hwl := Lib.hid (hb4.size)
                      have hBz := Lib.hid (World.block_lt_of_cell? wr _ hc4)
                      replace ho4 := Lib.hid ho4
                      replace hb4 := Lib.hid hb4
                      replace hn4 := Lib.hid hn4
                      have hc4h := Lib.hid hc4
                      replace hdr := Lib.hid hdr
                      replace hv := Lib.hid hv
                      have c3i : ((v : Int) == 0) = false := by simp; omega
                      replace hd := Lib.hid hd
                      clear hp hq2 hdm hA3 hc4 hdr c3 c2 c2i
                      go_wp2_with fail
                      refine (hofv.out _).mono ?_
                      rintro e w5 ⟨rfl, hz⟩
                      obtain rfl := hz.symm
                      clear hz
                      go_wp2_with fail
                      refine (hofv.out _).mono ?_
                      rintro e w5 ⟨rfl, hz⟩
                      obtain rfl := hz.symm
                      clear hz
                      go_wp2_with (at_builtin; refine wpList_append_rd rfl _ _ 24 rfl w.heap.size 9 ii (.string ByteArray.empty) 1 16 Tryz.underlying24 hii hz0 hz1 hz2 rfl (by decide) _ _ _ rfl (ho4.out.alloc _) _ 1 [.string (mk p)] rfl rfl (by go_simp; exact RdAt.new1T _ rfl) (by intro u hu; rw [List.mem_singleton.1 hu]; rfl) (by unfold maxLen; omega) (by omega) (by have := hwl.out; simp; omega) ?_; intro v5 w5 hp5; have hb5 := Lib.hid (grow_ownT ho4.out hb4.out hp5); have ho5 := Lib.hid hp5.1; have hc5 := app_cell hc4h.out hn4.out hp5; have hn5 := Lib.hid (app_apart hc4h.out hn4.out hp5); clear hp5)
                      go_quiet (fail)
                      go_wp2
                      go_roundg (q2.length)
                      case rel => exact ⟨outs ++ [p], q2, k + 1, xe, rfl, rfl, rfl, rfl, rfl, ⟨by simp, by simp⟩, hdr2.out, hL2.out, by rw [← List.append_assoc, scells_append, List.length_append]; exact ho5.out, bk_drewNT hb5.out _, hc5, hn5.out⟩
                      case measure => omega
          | false =>
            have e1 : s.b ++ P = b1 := by rw [hO3.out.2.1]; rfl
            have g3 : (xe : Int) = s.epoch := by have := hO3.out.2.2.2.2.2.2.2.2.1; rcases this with h | h; omega; cases h
            have g4 : ((xe : Int) != s.epoch) = false := by rw [g3]; simp
            replace g3 := Lib.hid g3
            have g5 : ¬ xe < s.epoch := by omega
            cases dd with
            | true =>
              go_wp2
              try rw [e1]
              replace hcat := Lib.hid hcat
              replace g4 := Lib.hid g4
              have hDD : true = !(false || s.open_) := hO3.out.2.2.1 true (by simp)
              have hl1 := hO3.out.2.2.2.1
              have hof := Lib.hid (fun (R : List UInt8) (w : World) => rof_any (R.take 2) w (by rw [List.length_take]; omega))
              replace hO3 := Lib.hid (show scan (eat s x) (l.drop (k + 1)) = r ∧ b1 = (if false = true then [] else s.b) ++ P ∧ xe = x.epoch ∧ false = x.fresh ∧ P = x.pay ∧ s.at_ = k from ⟨hO3.out.1, hO3.out.2.1, hO3.out.2.2.2.2.1, hO3.out.2.2.2.2.2.1, hO3.out.2.2.2.2.2.2.1, hO3.out.2.2.2.2.2.2.2.2.2.2.2⟩)
              have hcx0 : (w2.alloc (.cells #[.int .i64 xe, .int .i64 k, .bool false, .string (mk P)] 30)).cell? ⟨w2.heap.size, 0, none⟩ = some (.int .i64 xe) := cell_of (heap_alloc_new w2 _) rfl
              obtain ⟨w3, hw3⟩ : ∃ w3, w3 = w2.alloc (.cells #[.int .i64 xe, .int .i64 k, .bool false, .string (mk P)] 30) := ⟨_, rfl⟩
              have ho3 := ho2.out.alloc (.cells #[.int .i64 xe, .int .i64 k, .bool false, .string (mk P)] 30)
              rw [← hw3] at ho3
              have hbb3 : Below w.heap.size w w3 := by rw [hw3]; exact hbb2.out.alloc (by have := hbb2.out.size; omega) _
              have hcx : w3.cell? ⟨w2.heap.size, 0, none⟩ = some (.int .i64 xe) := by rw [hw3]; exact hcx0
              have hXB := Lib.hid (show w.heap.size ≤ w2.heap.size from hbb2.out.size)
              rw [← hw3]
              replace ho3 := Lib.hid ho3
              replace hbb3 := Lib.hid hbb3
              replace hcx := Lib.hid hcx
              have hxn := Lib.hid (fun q hq => (ho2.out.lt q hq).2)
              clear hw3 hcx0 ho2 hbb2 hc1
              have hop := Lib.hid (show (false || s.open_) = false by have := hDD; simpa using this)
              clear hDD
              go_loopg [5, 6, 7, 9, 10, 14] 0 (fun g vo nx ep op de _ wr2 => nx = .int .i64 s.end_ ∧ ep = .int .i64 s.last ∧ op = .string (mk b1) ∧ de = .bool true ∧ Aside (wr2.ownsRow w.heap.size 9 1 vo s.l.length (scells s.l) ∧ wr2 = w3))
              case atStart => exact ⟨rfl, rfl, rfl, rfl, ho3.out, rfl⟩
              case round =>
                obtain ⟨rfl, rfl, rfl, rfl, hA3⟩ := hrel
                obtain ⟨ho4, hw4⟩ := hA3.out
                obtain rfl := hw4.symm
                have E := eat_dead hO3.out.2.1 hop.out hO3.out.2.2.1 hO3.out.2.2.2.1 hO3.out.2.2.2.2.1 hO3.out.2.2.2.2.2
                have hsc3 := hO3.out.1
                rw [E] at hsc3
                replace hsc3 := Lib.hid hsc3
                replace ho4 := Lib.hid ho4
                clear E hA3
                go_wp2
                go_roundw
                case rel => exact ⟨k + 1, ⟨b1, false, k + 1, xe, s.l, s.end_, s.last⟩, true, hlt, by go_num, rfl, rfl, rfl, rfl, rfl, hsc3.out, rfl, .inl rfl, hl1, ho4.out, hbb3.out⟩
                case measure => simp [intOf]; omega
            | false =>
              go_wp2
              try rw [e1]
              replace hcat := Lib.hid hcat
              replace g4 := Lib.hid g4
              have hDD : false = !(false || s.open_) := hO3.out.2.2.1 false (by simp)
              have hl1 := hO3.out.2.2.2.1
              have hof := Lib.hid (fun (R : List UInt8) (w : World) => rof_any (R.take 2) w (by rw [List.length_take]; omega))
              replace hO3 := Lib.hid (show scan (eat s x) (l.drop (k + 1)) = r ∧ b1 = (if false = true then [] else s.b) ++ P ∧ xe = x.epoch ∧ false = x.fresh ∧ P = x.pay ∧ s.at_ = k from ⟨hO3.out.1, hO3.out.2.1, hO3.out.2.2.2.2.1, hO3.out.2.2.2.2.2.1, hO3.out.2.2.2.2.2.2.1, hO3.out.2.2.2.2.2.2.2.2.2.2.2⟩)
              have hcx0 : (w2.alloc (.cells #[.int .i64 xe, .int .i64 k, .bool false, .string (mk P)] 30)).cell? ⟨w2.heap.size, 0, none⟩ = some (.int .i64 xe) := cell_of (heap_alloc_new w2 _) rfl
              obtain ⟨w3, hw3⟩ : ∃ w3, w3 = w2.alloc (.cells #[.int .i64 xe, .int .i64 k, .bool false, .string (mk P)] 30) := ⟨_, rfl⟩
              have ho3 := ho2.out.alloc (.cells #[.int .i64 xe, .int .i64 k, .bool false, .string (mk P)] 30)
              rw [← hw3] at ho3
              have hbb3 : Below w.heap.size w w3 := by rw [hw3]; exact hbb2.out.alloc (by have := hbb2.out.size; omega) _
              have hcx : w3.cell? ⟨w2.heap.size, 0, none⟩ = some (.int .i64 xe) := by rw [hw3]; exact hcx0
              have hXB := Lib.hid (show w.heap.size ≤ w2.heap.size from hbb2.out.size)
              rw [← hw3]
              replace ho3 := Lib.hid ho3
              replace hbb3 := Lib.hid hbb3
              replace hcx := Lib.hid hcx
              have hxn := Lib.hid (fun q hq => (ho2.out.lt q hq).2)
              clear hw3 hcx0 ho2 hbb2 hc1
              have hop := Lib.hid (show (false || s.open_) = true by have := hDD; simpa using this.symm)
              clear hDD
              go_loopg [5, 6, 7, 9, 10, 14] b1.length (fun g vo nx ep op de _ wr2 => ∃ (outs : List (List UInt8)) (rest : List UInt8) (ne le : Nat), g = rest.length ∧ nx = .int .i64 ne ∧ ep = .int .i64 le ∧ op = .string (mk rest) ∧ de = .bool false ∧ Aside ((ne = (if outs = [] then s.end_ else k + 1) ∧ le = (if outs = [] then s.last else xe)) ∧ drain b1 = (outs ++ (drain rest).1, (drain rest).2.1, (drain rest).2.2) ∧ 3 * (s.l.length + outs.length) + rest.length ≤ 56 * (k + 1) ∧ wr2.ownsRow w.heap.size 9 1 vo (s.l ++ outs).length (scells (s.l ++ outs)) ∧ Below w.heap.size w wr2 ∧ wr2.cell? ⟨w2.heap.size, 0, none⟩ = some (.int .i64 xe) ∧ ∀ q, vo.ownBlock = some q → q ≠ w2.heap.size))
              case atStart => exact ⟨[], b1, s.end_, s.last, rfl, rfl, rfl, rfl, rfl, ⟨by simp, by simp⟩, by simp, by simpa using hl1, by rw [List.append_nil]; exact ho3.out, hbb3.out, hcx.out, fun q hq => by have := hxn.out q hq; omega⟩
              case round =>
                obtain ⟨outs, rest, ne, le, rfl, rfl, rfl, rfl, rfl, hA3⟩ := hrel
                obtain ⟨⟨hne, hle⟩, hdr, hlen3, ho4, hb4, hc4, hn4⟩ := hA3.out
                replace hne := Lib.hid hne
                replace hle := Lib.hid hle
                have hx2 : (mk rest).extract 0 2 = mk (rest.take 2) := mk_take rest 2
                by_cases c1 : rest.length < 2
                · have c1i : (rest.length : Int) < 2 := by omega
                  have E := eat_live hO3.out.2.1 hop.out hO3.out.2.2.1 hO3.out.2.2.2.1 hO3.out.2.2.2.2.1 hO3.out.2.2.2.2.2 (hdr.trans (by rw [drain_short c1, List.append_nil]))
                  have hsc3 := hO3.out.1
                  rw [E, ← hne.out, ← hle.out] at hsc3
                  replace hsc3 := Lib.hid hsc3
                  replace ho4 := Lib.hid ho4
                  replace hb4 := Lib.hid hb4
                  replace hdr := Lib.hid hdr
                  clear E hA3
                  go_wp2
                  go_roundw
                  case rel => exact ⟨k + 1, ⟨rest, true, k + 1, xe, s.l ++ outs, ne, le⟩, false, hlt, by go_num, rfl, rfl, rfl, rfl, rfl, hsc3.out, rfl, .inl rfl, by rw [List.length_append]; exact hlen3, ho4.out, hb4.out⟩
                  case measure => simp [intOf]; omega
                · have c1i : ¬ (rest.length : Int) < 2 := by omega
                  have c1j : (2 : Int) ≤ rest.length := by omega
                  obtain ⟨v, hv⟩ : ∃ v, v = val (rest.take 2) := ⟨_, rfl⟩
                  have hv6 : v < 65536 := by rw [hv]; have := val_lt (rest.take 2); have h2 : (rest.take 2).length = 2 := by { rw [List.length_take]; omega }; rw [h2] at this; omega
                  have hofv : ∀ w, Calls Tryz.prog 29 #[.string (mk (rest.take 2))] w fun e w' => e = .returned (.int .i64 v) ∧ w = w' := fun w => by rw [hv]; exact hof.out rest w
                  replace hofv := Lib.hid hofv
                  by_cases c2 : rest.length < 2 + v
                  · have c2i : ¬ ((2 : Int) + v ≤ rest.length) := by omega
                    have hv0 : val (rest.take 2) ≠ 0 := by rw [← hv]; omega
                    have c2v := c2
                    rw [hv] at c2v
                    have E := eat_live hO3.out.2.1 hop.out hO3.out.2.2.1 hO3.out.2.2.2.1 hO3.out.2.2.2.2.1 hO3.out.2.2.2.2.2 (hdr.trans (by rw [drain_part (by omega) hv0 c2v, List.append_nil]))
                    have hsc3 := hO3.out.1
                    rw [E, ← hne.out, ← hle.out] at hsc3
                    replace hsc3 := Lib.hid hsc3
                    replace ho4 := Lib.hid ho4
                    replace hb4 := Lib.hid hb4
                    replace hdr := Lib.hid hdr
                    clear E hA3
                    clear hv0 c2v
                    replace hv := Lib.hid hv
                    go_wp2_with fail
                    refine (hofv.out _).mono ?_
                    rintro e w5 ⟨rfl, hz⟩
                    obtain rfl := hz.symm
                    clear hz
                    go_wp2
                    go_roundw
                    case rel => exact ⟨k + 1, ⟨rest, true, k + 1, xe, s.l ++ outs, ne, le⟩, false, hlt, by go_num, rfl, rfl, rfl, rfl, rfl, hsc3.out, rfl, .inl rfl, by rw [List.length_append]; exact hlen3, ho4.out, hb4.out⟩
                    case measure => simp [intOf]; omega
                  · have c2i : ((2 : Int) + v ≤ rest.length) := by omega
                    by_cases c3 : v = 0
                    · have hv0 : val (rest.take 2) = 0 := by rw [← hv]; exact c3
                      have E := eat_live hO3.out.2.1 hop.out hO3.out.2.2.1 hO3.out.2.2.2.1 hO3.out.2.2.2.2.1 hO3.out.2.2.2.2.2 (hdr.trans (by rw [drain_dead (by omega) hv0, List.append_nil]))
                      have hsc3 := hO3.out.1
                      rw [E, ← hne.out, ← hle.out] at hsc3
                      replace hsc3 := Lib.hid hsc3
                      replace ho4 := Lib.hid ho4
                      replace hb4 := Lib.hid hb4
                      replace hdr := Lib.hid hdr
                      clear E hA3
                      clear hv0
                      replace hv := Lib.hid hv
                      subst c3
                      go_wp2_with fail
                      refine (hofv.out _).mono ?_
                      rintro e w5 ⟨rfl, hz⟩
                      obtain rfl := hz.symm
                      clear hz
                      go_wp2_with fail
                      refine (hofv.out _).mono ?_
                      rintro e w5 ⟨rfl, hz⟩
                      obtain rfl := hz.symm
                      clear hz
                      go_wp2
                      go_roundw
                      case rel => exact ⟨k + 1, ⟨rest, false, k + 1, xe, s.l ++ outs, ne, le⟩, true, hlt, by go_num, rfl, rfl, rfl, rfl, rfl, hsc3.out, rfl, .inl rfl, by rw [List.length_append]; exact hlen3, ho4.out, hb4.out⟩
                      case measure => simp [intOf]; omega
                    · have hdm := drain_more (b := rest) (by omega) (by rw [← hv]; exact c3) (by rw [← hv]; omega)
                      rw [← hv] at hdm
                      obtain ⟨p, hp⟩ : ∃ p, p = (rest.drop 2).take v := ⟨_, rfl⟩
                      obtain ⟨q2, hq2⟩ : ∃ q2, q2 = rest.drop (2 + v) := ⟨_, rfl⟩
                      obtain ⟨d, hd⟩ : ∃ d, d = 2 + v := ⟨_, rfl⟩
                      have hx3 : (mk rest).extract 2 d = mk p := by rw [mk_ext, hp, hd, Nat.add_sub_cancel_left]
                      have hx4 : (mk rest).extract d rest.length = mk q2 := by rw [hd, mk_drop _ _ (by omega), hq2]
                      have hdi : (2 : Int) + v = d := by omega
                      have hd2 : (2 : Int) ≤ d := by omega
                      have hd3 : (d : Int) ≤ rest.length := by omega
                      have hq2l : q2.length + 2 + v = rest.length := by rw [hq2, List.length_drop]; omega
                      have hdr2 := Lib.hid (show drain b1 = ((outs ++ [p]) ++ (drain q2).1, (drain q2).2.1, (drain q2).2.2) by rw [hdr, hdm, hp, hq2]; simp)
                      have hL2 := Lib.hid (show 3 * (s.l.length + (outs ++ [p]).length) + q2.length ≤ 56 * (k + 1) by rw [List.length_append]; simp; omega)
                      have hll : (s.l ++ outs).length ≤ 19000000 := by simp only [List.length_append]; omega
                      have hwl := Lib.hid (hb4.size)
                      have hBz := Lib.hid (World.block_lt_of_cell? wr _ hc4)
                      replace ho4 := Lib.hid ho4
                      replace hb4 := Lib.hid hb4
                      replace hn4 := Lib.hid hn4
                      have hc4h := Lib.hid hc4
                      replace hdr := Lib.hid hdr
                      replace hv := Lib.hid hv
                      have c3i : ((v : Int) == 0) = false := by simp; omega
                      replace hd := Lib.hid hd
                      clear hp hq2 hdm hA3 hc4 hdr c3 c2 c2i
                      go_wp2_with fail
                      refine (hofv.out _).mono ?_
                      rintro e w5 ⟨rfl, hz⟩
                      obtain rfl := hz.symm
                      clear hz
                      go_wp2_with fail
                      refine (hofv.out _).mono ?_
                      rintro e w5 ⟨rfl, hz⟩
                      obtain rfl := hz.symm
                      clear hz
                      go_wp2_with (at_builtin; refine wpList_append_rd rfl _ _ 24 rfl w.heap.size 9 ii (.string ByteArray.empty) 1 16 Tryz.underlying24 hii hz0 hz1 hz2 rfl (by decide) _ _ _ rfl (ho4.out.alloc _) _ 1 [.string (mk p)] rfl rfl (by go_simp; exact RdAt.new1T _ rfl) (by intro u hu; rw [List.mem_singleton.1 hu]; rfl) (by unfold maxLen; omega) (by omega) (by have := hwl.out; simp; omega) ?_; intro v5 w5 hp5; have hb5 := Lib.hid (grow_ownT ho4.out hb4.out hp5); have ho5 := Lib.hid hp5.1; have hc5 := app_cell hc4h.out hn4.out hp5; have hn5 := Lib.hid (app_apart hc4h.out hn4.out hp5); clear hp5)
                      go_quiet (fail)
                      go_wp2
                      go_roundg (q2.length)
                      case rel => exact ⟨outs ++ [p], q2, k + 1, xe, rfl, rfl, rfl, rfl, rfl, ⟨by simp, by simp⟩, hdr2.out, hL2.out, by rw [← List.append_assoc, scells_append, List.length_append]; exact ho5.out, bk_drewNT hb5.out _, hc5, hn5.out⟩
                      case measure => omega
        · rw [if_neg hf] at htake
          have hend : s = r := by rw [← hsc2, scan_none _ htake]
          subst hend
          replace hsc2 := Lib.hid hsc2
          have hbad : x.index ≠ k ∨ (x.index = k ∧ x.epoch < s.epoch) ∨ (x.index = k ∧ s.epoch < x.epoch ∧ x.fresh = false) := by
            by_cases i1 : x.index = k
            · by_cases i2 : x.epoch < s.epoch
              · exact .inr (.inl ⟨i1, i2⟩)
              · right; right
                have hn2 : ¬ (x.epoch = s.epoch ∨ x.fresh = true) := fun h => hf (by simp only [fits, Bool.and_eq_true, Bool.or_eq_true, decide_eq_true_eq, hat]; exact ⟨⟨i1, by omega⟩, h⟩)
                refine ⟨i1, ?_, ?_⟩
                · have : x.epoch ≠ s.epoch := fun e => hn2 (.inl e)
                  omega
                · cases hx : x.fresh with
                  | false => rfl
                  | true => exact absurd (.inr hx) hn2
            · exact .inl i1
          go_wp2_with fail
          refine (sget_any q (some x) _ hrl hdq).mono ?_
          rintro e w2 ⟨rfl, hb2⟩
          have ho2 := Lib.hid ((Chg.of_below (S := fun _ => False) hb2).row ho.out (fun _ _ => id))
          have hbb2 := Lib.hid (hb.out.trans (hb2.mono hb.out.size))
          simp only [secV]
          obtain ⟨xi, hxi⟩ : ∃ xi, xi = x.index := ⟨_, rfl⟩
          obtain ⟨xe, hxe⟩ : ∃ xe, xe = x.epoch := ⟨_, rfl⟩
          obtain ⟨xf, hxf⟩ : ∃ xf, xf = x.fresh := ⟨_, rfl⟩
          rw [← hxi, ← hxe, ← hxf] at hbad
          rw [← hxi, ← hxe, ← hxf]
          replace htake := Lib.hid htake
          replace hf := Lib.hid hf
          replace hdq := Lib.hid hdq
          clear hb2 hxi hxe hxf x1 x2 x3
          rcases hbad with h | ⟨h, h2⟩ | ⟨h, h2, h3⟩
          · have g1 : ((xi : Int) != k) = true := by rw [bne_iff_ne]; omega
            go_wp2
            go_ret3
            exact ⟨_, rfl, ho2.out.alloc _, hbb2.out.alloc (by have := hbb2.out.size; omega) _⟩
          · have g1 : ((xi : Int) != k) = false := by rw [h]; simp
            have g2 : (xe : Int) < s.epoch := by omega
            clear h
            go_wp2
            go_ret3
            exact ⟨_, rfl, ho2.out.alloc _, hbb2.out.alloc (by have := hbb2.out.size; omega) _⟩
          · have g1 : ((xi : Int) != k) = false := by rw [h]; simp
            have g2 : ¬ (xe : Int) < s.epoch := by omega
            have g3 : ((xe : Int) != s.epoch) = true := by rw [bne_iff_ne]; omega
            subst h3
            clear h
            go_wp2
            go_ret3
            exact ⟨_, rfl, ho2.out.alloc _, hbb2.out.alloc (by have := hbb2.out.size; omega) _⟩
    · obtain rfl : k = n := by omega
      have hend : s = r := by
        have := hsc.out
        rw [List.drop_of_length_le (by rw [hn.out]; exact Nat.le_refl _)] at this
        exact this
      subst hend
      go_wp2
      go_ret3
      exact ⟨_, rfl, ho.out, hb.out⟩
end Go.Proofs.YtaecfgakgpndaaaGreat
