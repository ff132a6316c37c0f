/- Open of a log. No condition but the table of spaces. -/
import Derived.Test.YtofejnhnnmnfpaaDoorWlA
import Derived.Test.YtofejnhnnmnfpaaDoorWPs
import Derived.Test.YtofejnhnnmnfpaaDoorFSc
import Derived.Deep.LoopGhost
import Derived.Deep.Cut
namespace Go.Proofs.YtofejnhnnmnfpaaDoor
set_option maxRecDepth 100000
open Go.RowKit

theorem dread_len {d : Dq.Dk} (hd : d.Ok) (n : Int) : (Dq.dread d n).1.length ≤ 64 := by
  unfold Dq.dread
  split
  · simp
  split
  · have h1 : (d.safe.getD n.toNat []).length ≤ 64 := by
      simp only [List.getD]
      cases hs : d.safe[n.toNat]? with
      | none => simp
      | some s => have := hd.size s (List.mem_of_getElem? hs); simp; omega
    cases hl : Dq.latest d.pend n.toNat with
    | none => exact h1
    | some s =>
      simp only [Option.getD_some]
      unfold Dq.latest at hl
      rw [Option.map_eq_some_iff] at hl
      obtain ⟨p, hp, rfl⟩ := hl
      have := (hd.pend p (by simpa using List.mem_of_find?_eq_some hp)).2
      omega
  · simp
theorem scan_at : ∀ (l : List (List UInt8)) (s : Fr.St), Fr.Inv s → Fr.Inv (Fr.scan s l) ∧ (Fr.scan s l).at_ ≤ s.at_ + l.length
  | [], s, h => by rw [Fr.scan]; exact ⟨h, by omega⟩
  | b :: l, s, h => by
    cases ht : Fr.take s b with
    | none => rw [Fr.scan_none _ ht]; exact ⟨h, by omega⟩
    | some s' =>
      have h1 := h.take ht
      obtain ⟨x, hd, _, e⟩ := Fr.take_fits ht
      rw [Fr.scan_some _ ht]
      obtain ⟨h2, h3⟩ := scan_at l s' h1
      have : s'.at_ = s.at_ + 1 := by rw [e]; unfold Fr.eat; simp only; split <;> rfl
      exact ⟨h2, by rw [this] at h3; simp only [List.length_cons]; omega⟩
theorem scan_len (l : List (List UInt8)) (h : l.length ≤ 4000) : (Fr.scan Fr.st0 l).l.length ≤ 1000000 := by
  obtain ⟨⟨h1, _⟩, h2⟩ := scan_at l Fr.st0 Fr.Inv.start
  have : Fr.st0.at_ = 0 := rfl
  omega
/-- Behind the store of the longer row. -/
theorem open_end {wE w7 : World} {o : Obj} {B G lo hi : Nat} {T : Nat → Prop} {L : Lg} {vl vw v7 : Value} {ps : List Rp} {p : Rp} {y : Rc.Rec} (hpr : p.r = y)
    (HE : LX wE B G T L vl vw ps) (hp : AppPost (wE.alloc o).drew 0 37 14 vl L.l.length (rpcells ps) 1 p.cells v7 w7) (hK : RecK wE (fun k => lo ≤ k ∧ k < hi) p) (hlo : lo ≤ wE.heap.size) (hhi : hi ≤ wE.heap.size) (hT : ∀ k, T k → ¬ (lo ≤ k ∧ k < hi)) :
    ∃ T', LX (w7.setCell ⟨G, 4, none⟩ v7) B G T' { L with l := L.l ++ [y] } v7 vw (ps ++ [p]) ∧ Chg T wE (w7.setCell ⟨G, 4, none⟩ v7) ∧ ∀ k, T' k → T k ∨ lo ≤ k := by
  have hcX : Chg (fun _ => False) wE (wE.alloc o).drew := ((Chg.refl _ wE).alloc o).drew
  have hz : (wE.alloc o).drew.heap.size = wE.heap.size + 1 := by simp
  obtain ⟨H, hcP⟩ := (HE.kept hcX (fun _ _ => id)).push hp (hK.chg hcX (fun _ _ => id)) (fun k hk => ⟨fun e => hT k e hk, by omega⟩)
  subst hpr
  refine ⟨_, H, (hcX.mono (fun _ _ h => h.elim)).trans hcP (fun _ _ e => e), fun k hk => ?_⟩
  rcases hk with e | e | e
  · exact .inl e
  · omega
  · omega
set_option maxHeartbeats 6400000 in
theorem xOpen {H : Nat} {w0 w : World} {B first secs epoch : Nat} {d : Dq.Dk} {r : Fr.St} {xs : List Rc.Rec} (hT : Rc.Tab w) (h : Dq.DIn H w0 w B d) (hs1 : 1 ≤ secs) (hs2 : secs ≤ 4000) (hr : first + secs ≤ d.safe.length) (he1 : 1 ≤ epoch) (he2 : epoch ≤ 4294967295) (live : d.dead = false) (hscan : Fr.scan Fr.st0 (rdOf d first secs) = r) (hlast : r.last < epoch) (hx : r.l = xs.map Rc.enc) (hok : ∀ x ∈ xs, Rc.RecOk x) :
    Calls Tryd.prog 11 #[.pointer (some ⟨B, 0, none⟩), .int .i64 (first : Int), .int .i64 (secs : Int), .int .i64 (epoch : Int)] w fun e w' => ∃ G T, e = .returned (.tuple #[.pointer (some ⟨G, 0, none⟩), .int .i64 0]) ∧ LAt w' B G T ⟨first, secs, epoch, xs, [], r.end_⟩ ∧ (∀ k, T k → w.heap.size ≤ k) ∧ Below w.heap.size w w' := by
  obtain ⟨ii, hii, hz0, hz1, hz2⟩ := info_parts infoStr
  obtain ⟨ir, hir, hr0, hr1, hr2⟩ := info_parts infoRec
  have hmf : ∀ (fn : Fn) (first cap : Array Value) (w : World), (Instr.makeFunc fn first cap).run Tryd.prog w = .ok (.func fn first cap) w := fun _ _ _ _ => rfl
  have hdok := h.ok
  have hlen := hdok.few
  obtain ⟨rd, hrd⟩ : ∃ rd, rd = rdOf d first secs := ⟨_, rfl⟩
  have hrdl : rd.length = secs := by rw [hrd, rdOf_length]
  have hrdg : ∀ i (hi : i < secs), Dq.dread d (((first + i : Nat)) : Int) = (rd[i], 0) := fun i hi => by
    have e : (rd[i]) = (Dq.dread d (((first + i : Nat)) : Int)).1 := by simp [hrd, rdOf]
    rw [e]
    have : (Dq.dread d (((first + i : Nat)) : Int)).2 = 0 := by
      rw [Dq.dread, live, isIn_nat (d := d) (n := first + i) (by omega), if_neg (by decide), if_pos rfl]
    rw [← this]
  have hrd64 : ∀ b ∈ rd, b.length ≤ 140737488351232 := fun b hb => by
    rw [hrd] at hb
    obtain ⟨i, _, rfl⟩ := List.mem_map.1 hb
    have := dread_len hdok ((first : Int) + (i : Int))
    omega
  rw [← hrd] at hscan
  have hnr6 : xs.length ≤ 1000000 := by
    have := scan_len rd (by omega)
    rw [hscan, hx, List.length_map] at this
    exact this
  replace hnr6 := Lib.hid hnr6
  have hsec : ∀ w', Below w.heap.size w w' → Calls Tryd.prog 28 #[.pointer (some ⟨B, 0, none⟩)] w' fun e w'' => e = .returned (.int .i64 (d.safe.length : Int)) ∧ w' = w'' := fun w' hb => Dq.iSectors (h.more hb)
  have g1 : ¬ ((secs : Int) < 1) := by omega
  have g2 : ¬ ((4000 : Int) < secs) := by omega
  have g3 : ¬ ((first : Int) < 0) := by omega
  have g4 : ¬ ((d.safe.length : Int) - secs < first) := by omega
  have g5 : ¬ ((epoch : Int) < 1) := by omega
  have g6 : ¬ ((4294967295 : Int) < epoch) := by omega
  replace hrd64 := Lib.hid hrd64
  replace hrdg := Lib.hid hrdg
  replace hscan := Lib.hid hscan
  replace hsec := Lib.hid hsec
  replace hok := Lib.hid hok
  replace hx := Lib.hid hx
  replace hrdl := Lib.hid hrdl
  clear hrd live hdok
  go_enter Tryd.func11, Tryd.ntmps11
  go_wp2_with fail
  refine (hsec.out _ (Below.refl _ _)).mono ?_
  rintro e w1 ⟨rfl, rfl⟩
  clear hsec
  go_wp2
  go_loopw [11, 56] (fun va i wr => ∃ k : Nat, k ≤ secs ∧ i = .int .i64 k ∧ Aside (wr.ownsRow w.heap.size 9 1 va k (Fr.scells (rd.take k)) ∧ Below w.heap.size w wr)) (fun _ i _ => secs - (intOf i).toNat)
  case atStart => exact ⟨0, Nat.zero_le _, rfl, World.ownsRow_nil _ _ _ _, Below.refl _ _⟩
  case round =>
    obtain ⟨k, hk, rfl, hA⟩ := hrel
    obtain ⟨ho, hb⟩ := hA.out
    clear hA
    have hD := Lib.hid (h.more hb)
    by_cases hlt : k < secs
    · have q := hrdg.out k hlt
      have hcast : (first : Int) + (k : Int) = ((first + k : Nat) : Int) := by omega
      have hrk : k < rd.length := by rw [hrdl.out]; exact hlt
      have htk := Lib.hid (List.take_succ_eq_append_getElem hrk)
      obtain ⟨b, hbk⟩ : ∃ b, b = rd[k] := ⟨_, rfl⟩
      rw [← hbk] at q
      have C := Dq.iRead (((first + k : Nat)) : Int) q hD.out
      rw [← hcast] at C
      replace C := Lib.hid C
      have hki : (k : Int) < secs := by omega
      obtain ⟨av, mv, cv, rfl, hm⟩ := own_form ho
      subst hm
      replace ho := Lib.hid ho
      replace hb := Lib.hid hb
      replace hbk := Lib.hid hbk
      clear q hcast
      go_wp2_with fail
      refine C.out.mono ?_
      rintro e w2 ⟨rfl, rfl⟩
      have hsz := hb.out.size
      go_wp2_with (at_builtin; refine wpList_append_rd rfl _ _ 56 rfl w.heap.size 9 ii (.string ByteArray.empty) 1 16 Tryd.underlying56 hii hz0 hz1 hz2 rfl (by decide) _ _ _ rfl (ho.out.alloc _) _ 1 [.string (mk b)] rfl rfl (by go_simp; exact RdAt.new1W _ rfl) (by intro u hu; rw [List.mem_singleton.1 hu]; rfl) (by unfold maxLen; omega) (by omega) (by simp; omega) ?_; intro v5 w5 hp5; have ho5 := Lib.hid hp5.1; have hb5 := Lib.hid (grow_ownW ho.out hb.out hp5); clear hp5)
      exact ⟨⟨mv + 1, hlt, by go_num, by rw [htk.out, Fr.scells_append, ← hbk.out]; exact ho5.out, hb5.out⟩, by simp [intOf]; omega⟩
    · rename World => wL
      obtain rfl : k = secs := by omega
      rw [List.take_of_length_le (by rw [hrdl.out]; exact Nat.le_refl _)] at ho
      obtain ⟨av, cv, ev, hta⟩ := Fr.TAt.own ho
      rw [hrdl.out] at ev
      subst ev
      obtain ⟨oL, hoL⟩ : ∃ oL, oL = Obj.cells #[.pointer (some ⟨B, 0, none⟩), .int .i64 (first : Int), .int .i64 (k : Int), .int .i64 (epoch : Int), .slice none 0 0, .slice none 0 0, .int .i64 0] 66 := ⟨_, rfl⟩
      have HL := LX.new wL B first k epoch
      have C := Fr.scan_any av cv rd r (wL.alloc oL) (by rw [hrdl.out]; omega) hrd64.out (hta.more ((Below.refl _ _).alloc (Nat.le_refl _) _)) hscan.out
      rw [hrdl.out, hx.out] at C
      rw [← hoL] at HL
      have hgl : ¬ ((epoch : Int) ≤ r.last) := by omega
      obtain ⟨G, hG⟩ : ∃ G, G = wL.heap.size := ⟨_, rfl⟩
      have hzA : (wL.alloc oL).heap.size = wL.heap.size + 1 := by simp
      replace C := Lib.hid C
      replace HL := Lib.hid HL
      replace hb := Lib.hid hb
      replace hoL := Lib.hid hoL
      replace hG := Lib.hid hG
      replace hzA := Lib.hid hzA
      clear ho hta hD hscan hrd64 hrdg hlast
      go_wp2_with fail
      rw [← hoL.out, ← hG.out]
      rw [← hG.out] at HL
      refine C.out.mono ?_
      rintro e w3 ⟨v3, rfl, ho3, hb3⟩
      obtain ⟨nr, hnr⟩ : ∃ nr, nr = xs.length := ⟨_, rfl⟩
      rw [List.length_map, ← hnr] at ho3
      obtain ⟨a3, c3, rfl, ht3⟩ : ∃ a3 c3, v3 = .slice a3 nr c3 ∧ Fr.TAt w3 a3 (xs.map Rc.enc) := by
        obtain ⟨a, c, e, ht⟩ := Fr.TAt.own ho3
        rw [List.length_map, ← hnr] at e
        exact ⟨a, c, e, ht⟩
      have hlt3 := fun j hj => (ho3.lt j hj)
      have hnr7 : nr ≤ 1000000 := by rw [hnr]; exact hnr6.out
      have b3 := hb.out.trans ((((Below.refl wL.heap.size wL).alloc (Nat.le_refl _) oL).trans (hb3.mono (by have := hzA.out; omega))).mono hb.out.size)
      have H3 := HL.out.more hb3
      have hG3 : G < w3.heap.size := H3.lt _ rfl
      have hszw := hb.out.size
      replace ht3 := Lib.hid ht3
      replace hlt3 := Lib.hid hlt3
      replace b3 := Lib.hid b3
      replace H3 := Lib.hid H3
      replace hnr := Lib.hid hnr
      clear ho3 hb3 C HL hb
      go_upto_region 17 with (fail)
      go_cut [90, 91, 92] from 23 (fun s90 s91 s92 wr => s90 = .slice a3 nr c3 ∧ s91 = .int .i64 (nr : Nat) ∧ s92 = .int .i64 0 ∧ Aside (w3 = wr))
      case first =>
        go_wp2
        go_meet
        case rel => exact ⟨rfl, rfl, rfl, rfl⟩
      obtain ⟨rfl, rfl, rfl, hA⟩ := hcut
      obtain rfl := hA.out
      clear hA
      go_wp2
      go_loopg [92] nr (fun gg i wr => ∃ k2 : Nat, gg + k2 = nr ∧ i = .int .i64 k2 ∧ Aside (∃ T vl ps, LX wr B G T ⟨first, k, epoch, xs.take k2, [], 0⟩ vl (.slice none 0 0) ps ∧ (∀ j, T j → j = G ∨ w3.heap.size ≤ j) ∧ Chg (fun j => j = G) w3 wr))
      case atStart => exact ⟨0, rfl, rfl, _, _, _, H3.out, fun j hj => .inl hj, Chg.refl _ _⟩
      case round =>
        obtain ⟨k2, hgk, rfl, hA⟩ := hrel
        have hk2 : k2 ≤ nr := by omega
        obtain ⟨T, vl, ps, HQ, hTQ, hcQ⟩ := hA.out
        clear hA H3
        have bQ := b3.out.trans (hcQ.below (B := wL.heap.size) (fun j _ e => by have := hG.out; omega) (by have := hG.out; omega) |>.mono hszw)
        by_cases hlt2 : k2 < nr
        · have hkx : k2 < xs.length := by rw [← hnr.out]; exact hlt2
          have htk2 := List.take_succ_eq_append_getElem hkx
          obtain ⟨xr, hxr⟩ : ∃ xr, xr = xs[k2] := ⟨_, rfl⟩
          have hxok : Rc.RecOk xr := by rw [hxr]; exact hok.out _ (List.getElem_mem hkx)
          obtain ⟨g, o, ea, hcx⟩ := ht3.out k2 (by rw [List.length_map]; exact hkx)
          rw [List.getElem_map, ← hxr] at hcx
          rw [← hxr] at htk2
          have hgr : g < w3.heap.size := World.block_lt_of_cell? w3 _ hcx
          have hgG : g ≠ G := by
            subst ea
            have := hlt3.out g rfl
            have := hzA.out
            have := hG.out
            omega
          have hcw : wr.cell? ⟨g, o + k2, none⟩ = some (.string (mk (Rc.enc xr))) := (World.cell?_of_block (w := w3) (hcQ.block _ hgr hgG)).trans hcx
          obtain ⟨bs, hbs⟩ : ∃ bs, bs = Rc.enc xr := ⟨_, rfl⟩
          rw [← hbs] at hcw
          subst ea
          have hT9 := hT.more bQ
          have hki : (k2 : Int) < nr := by omega
          have hsQ := hcQ.size
          replace HQ := Lib.hid HQ
          replace hcQ := Lib.hid hcQ
          replace bQ := Lib.hid bQ
          replace hTQ := Lib.hid hTQ
          replace htk2 := Lib.hid htk2
          replace hbs := Lib.hid hbs
          replace hxr := Lib.hid hxr
          clear hcx
          go_wp2_with fail
          refine (Rc.recget_any bs wr hT9).mono ?_
          intro e w4 hp
          obtain ⟨y, b1', d1, b2', d2, b3', d3, b4', d4, pf, rfl, hR, hpt, hpf, hb4⟩ := Rc.getLet_of hp
          clear hp
          cases pf with
          | false => exact absurd hbs.out.symm ((hpf rfl).2 xr hxok)
          | true =>
            obtain ⟨hy1, hy2⟩ := hpt rfl
            have hyr : y = xr := Rc.enc_inj hy1 hxok (hy2.trans hbs.out) (Rc.parsed_ex _)
            clear hpt hpf hy1 hy2
            obtain ⟨p, hp⟩ : ∃ p : Rp, p = ⟨y, .slice b1' y.pages.length d1, .slice b2' y.pats.length d2, .slice b3' y.txs.length d3, .slice b4' y.dirty.length d4⟩ := ⟨_, rfl⟩
            have hK : RecK w4 (fun k => wr.heap.size ≤ k ∧ k < w4.heap.size) p := by rw [hp]; exact RecK.own hR
            have hpr : p.r = y := by rw [hp]
            obtain ⟨wE, hwE⟩ : ∃ wE, wE = w4.alloc (.cells #[.int .i64 y.kind, .int .i64 y.tx, .int .i64 y.prev, .int .i64 y.next, .string (mk y.key), .bool y.had, .string (mk y.old.key), .string (mk y.old.val), .int .i64 y.old.blob, .int .i64 y.old.size, .slice b1' y.pages.length d1, .slice b2' y.pats.length d2, .slice b3' y.txs.length d3, .slice b4' y.dirty.length d4] 37) := ⟨_, rfl⟩
            have hE : Chg (fun _ => False) w4 wE := by rw [hwE]; exact (Chg.refl _ _).alloc _
            have hsE : wE.heap.size = w4.heap.size + 1 := by rw [hwE]; simp
            have HE := (HQ.out.more hb4).kept hE (fun _ _ => id)
            have hb6 : wE.heap[w4.heap.size]? = some (.cells #[.int .i64 y.kind, .int .i64 y.tx, .int .i64 y.prev, .int .i64 y.next, .string (mk y.key), .bool y.had, .string (mk y.old.key), .string (mk y.old.val), .int .i64 y.old.blob, .int .i64 y.old.size, .slice b1' y.pages.length d1, .slice b2' y.pats.length d2, .slice b3' y.txs.length d3, .slice b4' y.dirty.length d4] 37 (0, 0)) := by rw [hwE]; exact heap_alloc_new w4 _
            have hKE := hK.chg hE (fun _ _ => id)
            have hs4 := hb4.size
            have hcE : Chg (fun j => j = G) w3 wE := (hcQ.out.trans (Chg.of_below (S := fun j => j = G) hb4) (fun _ _ h => h)).trans (hE.mono (T := fun j => j = G) (fun _ _ h => h.elim)) (fun _ _ h => h)
            obtain ⟨al6, cl6, aw6, cw6, f1, f2, n0, n1, n2, n3, n4, n5, n6, hf6, hG6⟩ := HE.cells
            have hf64 := hf6 4
            obtain ⟨⟨r0, r1, r2, r3, r4, r5, r6⟩, ⟨r7, r8, r9, r10, r11, r12, r13⟩, hl6⟩ := Rc.rec_cells hb6
            have hRd : ∀ w : World, RdAt (w.alloc (.cells #[.int .i64 y.kind, .int .i64 y.tx, .int .i64 y.prev, .int .i64 y.next, .string (mk y.key), .bool y.had, .string (mk y.old.key), .string (mk y.old.val), .int .i64 y.old.blob, .int .i64 y.old.size, .slice b1' y.pages.length d1, .slice b2' y.pats.length d2, .slice b3' y.txs.length d3, .slice b4' y.dirty.length d4] 37)) (.slice (some ⟨w.heap.size, 0, none⟩) 1 1) 1 p.cells := fun w => by
              rw [hp]
              exact RdAt.newRec ⟨y, .slice b1' y.pages.length d1, .slice b2' y.pats.length d2, .slice b3' y.txs.length d3, .slice b4' y.dirty.length d4⟩ 37 rfl 1
            have hOne := Rp.cells_one p hKE
            obtain ⟨nl, hnl⟩ : ∃ nl, nl = (xs.take k2).length := ⟨_, rfl⟩
            have hnl2 : nl = k2 := by rw [hnl, List.length_take]; omega
            have hrl : wE.ownsRow 0 37 14 (.slice al6 nl cl6) nl (rpcells ps) := by
              have := HE.rl
              rw [f1] at this
              rw [hnl]
              exact this
            have hlen9 : p.cells.length = 1 * 14 := rfl
            simp only at n4
            rw [← hnl] at n4
            have hnl3 : nl ≤ 1000000 := by omega
            have hvlG : ∀ k, (Value.slice al6 nl cl6).ownBlock = some k → k ≠ G := fun k hk => (HE.bl k (by rw [hnl] at hk; rw [f1]; exact hk)).2
            have hHEb := HE.blk
            replace HE := Lib.hid HE
            replace hHEb := Lib.hid hHEb
            replace hKE := Lib.hid hKE
            replace hsE := Lib.hid hsE
            replace hwE := Lib.hid hwE
            replace hp := Lib.hid hp
            replace hpr := Lib.hid hpr
            replace hb6 := Lib.hid hb6
            replace hRd := Lib.hid hRd
            replace hOne := Lib.hid hOne
            replace hrl := Lib.hid hrl
            replace hlen9 := Lib.hid hlen9
            replace hnl := Lib.hid hnl
            replace hnl2 := Lib.hid hnl2
            replace hvlG := Lib.hid hvlG
            replace hyr := Lib.hid hyr
            replace hcE := Lib.hid hcE
            have f1' := Lib.hid f1
            clear hE f1 f2 n0 n1 n2 n3 n5 n6 hf6 hK hR hb4
            go_upto_region 23 with (fail)
            rw [← hwE.out]
            go_region_law (refine step_append_rd rfl (.tmp 107) (.tmp 109) 45 rfl 0 37 ir Rc.zrec 14 200 Tryd.underlying45 hir hr0 hr1 hr2 rfl (by decide) (.slice al6 nl cl6) nl (rpcells ps) (by simp [Act.eval]) (hrl.out.drew.alloc _) (.slice (some ⟨wE.heap.size, 0, none⟩) 1 1) 1 p.cells (by simp [Act.eval]) hlen9.out (hRd.out _) hOne.out (by unfold maxLen; omega) (by omega) (by simp) ?_; intro v7 w7 hp7; obtain ⟨a7, m7, cc7, rfl, hm7⟩ := own_form hp7.1; subst hm7; have g7 := hold_app hp7 hG6 hvlG.out; rw [hHEb.out] at g7; have c7 := cell_of (i := 4) g7 rfl; have z7 := free_of (i := 4) g7; have l7 := lt_of g7; replace hp7 := Lib.hid hp7; clear g7)
            all_goals
              obtain ⟨T', HF, hcF, hTF⟩ := open_end (lo := wr.heap.size) (hi := w4.heap.size) hpr.out HE.out (by rw [f1'.out]; have := hp7.out; rw [hnl.out] at this; exact this) hKE.out (by have := hsE.out; omega) (by have := hsE.out; omega) (fun j hj e => by
                have := HQ.out.lt j hj
                omega)
              rw [← hnl.out] at HF hcF
              have hfin : ∃ T vl ps, LX (w7.setCell ⟨G, 4, none⟩ (.slice a7 (nl + 1) cc7)) B G T ⟨first, k, epoch, xs.take (k2 + 1), [], 0⟩ vl (.slice none 0 0) ps ∧ (∀ j, T j → j = G ∨ w3.heap.size ≤ j) ∧ Chg (fun j => j = G) w3 (w7.setCell ⟨G, 4, none⟩ (.slice a7 (nl + 1) cc7)) := by
                refine ⟨T', .slice a7 (nl + 1) cc7, ps ++ [p], ?_, fun j hj => ?_, hcE.out.trans hcF (fun j hj e => ?_)⟩
                · have := HF
                  rw [hyr.out, ← htk2.out] at this
                  exact this
                · rcases hTF j hj with e | e
                  · exact hTQ.out j e
                  · exact .inr (by omega)
                · rcases hTQ.out j e with e' | e'
                  · exact e'
                  · omega
              replace hfin := Lib.hid hfin
              clear HF hcF hTF hp7 c7 z7 l7
              go_wp2
              go_roundg (nr - (k2 + 1))
              case measure => omega
              case rel => exact ⟨k2 + 1, by omega, by go_num, hfin.out⟩
        · obtain rfl : k2 = nr := by omega
          rw [List.take_of_length_le (by rw [hnr.out]; exact Nat.le_refl _)] at HQ
          obtain ⟨al6, cl6, aw6, cw6, f1, f2, n0, n1, n2, n3, n4, n5, n6, hf6, hG6⟩ := HQ.cells
          have hf66 := hf6 6
          obtain ⟨HS, hcS⟩ := HQ.setEnd r.end_
          have hfin : ∃ T, LAt (wr.setCell ⟨G, 6, none⟩ (.int .i64 (r.end_ : Int))) B G T ⟨first, k, epoch, xs, [], r.end_⟩ ∧ (∀ k, T k → w.heap.size ≤ k) ∧ Below w.heap.size w (wr.setCell ⟨G, 6, none⟩ (.int .i64 (r.end_ : Int))) := by
            have hb' : Below w.heap.size w (wr.setCell ⟨G, 6, none⟩ (.int .i64 (r.end_ : Int))) := bQ.trans ((hcS.below (B := w.heap.size) (fun j _ e => by have := hG.out; omega) (by have := bQ.size; omega)))
            exact ⟨_, ⟨_, _, _, HS⟩, fun j hj => by have := hG.out; have := hzA.out; rcases hTQ j hj with e | e <;> omega, hb'⟩
          replace hfin := Lib.hid hfin
          clear f1 f2 n0 n1 n2 n3 n4 n5 hf6 HS hcS HQ hcQ hTQ bQ ht3 hlt3 b3
          go_wp2
          go_ret2
          obtain ⟨T', k1, k2', k3⟩ := hfin.out
          exact ⟨G, rfl, T', k1, k2', k3⟩
end Go.Proofs.YtofejnhnnmnfpaaDoor
