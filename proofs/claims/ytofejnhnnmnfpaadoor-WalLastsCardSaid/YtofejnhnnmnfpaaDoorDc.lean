/- What Sync, Stop and Crash of a disk leave. No condition. -/
import Derived.Test.YtofejnhnnmnfpaaDoorDAll
namespace Go.Proofs.YtofejnhnnmnfpaaDoor.Dq
set_option maxRecDepth 100000
open Go.RowKit

def dsync (d : Dk) : Dk × Int := if d.dead then (d, 10) else ({ d with safe := dset d.safe d.pend, pend := [] }, 0)
def dstop (d : Dk) (n : Int) : Dk := if d.dead then d else { d with stops := decide (0 ≤ n), after := n.toNat }

section
variable {w : World} {B : Nat} {rs rp : Option Nat} {m : Nat} {d : Dk}
theorem DPost.settled {w1 : World} {d' : Dk} (h : DAt w1 B rs none m d') (c : Chg (DS B rs none m) w w1) : DPost w w1 B rs rp m d' :=
  ⟨none, h, c.mono (fun k _ e => by rcases e with e | e | e | e; exact .inl e; exact .inr (.inl e); cases e; exact .inr (.inr (.inr e))), RowOk.none _ _⟩
theorem kSync (h : DAt w B rs rp m d) : Calls Tryd.prog 36 #[.pointer (some ⟨B, 0, none⟩)] w fun e w' => e = .returned (.int .i64 (dsync d).2) ∧ DPost w w' B rs rp m (dsync d).1 := by
  have C := Lib.hid (kDead h)
  cases hd : d.dead
  · rw [hd] at C
    rw [show dsync d = ({ d with safe := dset d.safe d.pend, pend := [] }, 0) by simp [dsync, hd]]
    obtain ⟨sa, cs, ap, cp, c0, c1, c2, c3, c4, c5, hf, hB⟩ := h.cells
    have hok := h.1
    have S := Lib.hid (fun vp (hp : w.ownsRow 0 90 2 vp d.pend.length (pcells d.pend)) => ksettle vp d.pend h hp hok.pend hok.many)
    have hown : w.ownsRow 0 90 2 (.slice ap d.pend.length cp) d.pend.length (pcells d.pend) := by
      obtain ⟨_, vs, vp, _, _, hb, _, hp, _⟩ := h
      have e : w.cell? ⟨B, 1, none⟩ = some vp := cell_of hb rfl
      rw [c1] at e
      have e := Option.some.inj e
      rw [← e] at hp
      exact hp
    have HO := Lib.hid hown
    clear c0 c2 c3 c4 c5 hf hB hok h hown hd
    go_enter Tryd.func36, Tryd.ntmps36
    go_wp2_with (first | (go_at_call 46; refine C.out.mono ?_; rintro e w' ⟨rfl, rfl⟩) | (go_at_call 47; refine (S.out _ HO.out).mono ?_; rintro e w' ⟨rfl, h1, h2⟩; have fin : DPost w w' B rs rp m _ := DPost.settled h1 h2; clear h1 h2))
    go_ret
    exact ⟨rfl, fin⟩
  · rw [hd] at C
    rw [show dsync d = (d, 10) by simp [dsync, hd]]
    have fin := DPost.refl h
    clear h hd
    go_enter Tryd.func36, Tryd.ntmps36
    go_wp2_with (first | (go_at_call 46; refine C.out.mono ?_; rintro e w' ⟨rfl, rfl⟩))
    go_ret
    exact ⟨rfl, fin⟩
theorem kStop (n : Int) (h : DAt w B rs rp m d) (hn : n ≤ 9223372036854775807) (hn0 : -9223372036854775808 ≤ n) : Calls Tryd.prog 23 #[.pointer (some ⟨B, 0, none⟩), .int .i64 n] w fun e w' => e = .returned (.tuple #[]) ∧ DPost w w' B rs rp m (dstop d n) := by
  have C := Lib.hid (kDead h)
  cases hd : d.dead
  · rw [hd] at C
    obtain ⟨sa, cs, ap, cp, c0, c1, c2, c3, c4, c5, hf, hB⟩ := h.cells
    have f3 := hf 3
    have f4 := hf 4
    have fin := fun (b : Bool) (k : Nat) (hk : k ≤ 9223372036854775807) => (show DPost w ((w.setCell ⟨B, 3, none⟩ (.bool b)).setCell ⟨B, 4, none⟩ (.int .i64 (k : Int))) B rs rp m { d with stops := b, after := k } from
      ⟨rp, (h.set3 _).set4 k hk, (Chg.cellB rs rp m w 3 _).setCell (a := ⟨B, 4, none⟩) (fun _ => .inl rfl) _, .inl rfl⟩)
    clear c0 c1 c2 c5 hf hB h
    by_cases h0 : 0 ≤ n
    · obtain ⟨k, rfl⟩ := Int.eq_ofNat_of_zero_le h0
      rw [show dstop d k = { d with stops := true, after := k } by simp [dstop, hd]]
      have FIN := Lib.hid (fin true k (by omega))
      clear fin hd
      go_enter Tryd.func23, Tryd.ntmps23
      go_wp2_with (first | (go_at_call 46; refine C.out.mono ?_; rintro e w' ⟨rfl, rfl⟩))
      go_end0
      exact ⟨rfl, FIN.out⟩
    · have hdd : decide (0 ≤ n) = false := by simp; omega
      rw [show dstop d n = { d with stops := false, after := 0 } by simp [dstop, hd, hdd]; omega]
      have FIN := Lib.hid (fin false 0 (by omega))
      clear fin hd
      go_enter Tryd.func23, Tryd.ntmps23
      go_wp2_with (first | (go_at_call 46; refine C.out.mono ?_; rintro e w' ⟨rfl, rfl⟩))
      go_end0
      exact ⟨rfl, FIN.out⟩
  · rw [hd] at C
    rw [show dstop d n = d by simp [dstop, hd]]
    have fin := DPost.refl h
    clear h hd
    go_enter Tryd.func23, Tryd.ntmps23
    go_wp2_with (first | (go_at_call 46; refine C.out.mono ?_; rintro e w' ⟨rfl, rfl⟩))
    go_end0
    exact ⟨rfl, fin⟩

/-- What of a list is kept. -/
def keptOf {α : Type} : List α → List Bool → List α
  | [], _ => []
  | _ :: _, [] => []
  | p :: r, b :: bs => if b then p :: keptOf r bs else keptOf r bs
theorem keptOf_nil {α : Type} (l : List α) : keptOf l [] = [] := by cases l <;> rfl
theorem keptOf_snoc {α : Type} (p : α) : ∀ (l : List α) (bs : List Bool), keptOf (l ++ [p]) bs = keptOf l bs ++ if bs.getD l.length false then [p] else []
  | [], [] => rfl
  | [], b :: bs => by cases b <;> simp [keptOf]
  | q :: l, [] => by simp [keptOf]
  | q :: l, b :: bs => by
    have := keptOf_snoc p l bs
    cases b <;> simp [keptOf, this]
theorem keptOf_sub {α : Type} : ∀ (l : List α) (bs : List Bool), ∀ p ∈ keptOf l bs, p ∈ l
  | [], _, p, h => by simp [keptOf] at h
  | q :: l, [], p, h => by simp [keptOf] at h
  | q :: l, b :: bs, p, h => by
    cases b
    · exact List.mem_cons_of_mem _ (keptOf_sub l bs p (by simpa [keptOf] using h))
    · simp only [keptOf, if_true, List.mem_cons] at h ⊢
      rcases h with h | h
      · exact .inl h
      · exact .inr (keptOf_sub l bs p h)
theorem keptOf_length {α : Type} : ∀ (l : List α) (bs : List Bool), (keptOf l bs).length ≤ l.length
  | [], _ => by simp [keptOf]
  | q :: l, [] => by simp [keptOf]
  | q :: l, b :: bs => by
    have := keptOf_length l bs
    cases b <;> simp [keptOf] <;> omega

/-- A slice of truths in memory: its address, its length's worth of cells. -/
def BAt (w : World) (a : Option Addr) (ks : List Bool) : Prop := ∀ j (h : j < ks.length), ∃ b o, a = some ⟨b, o, none⟩ ∧ w.cell? ⟨b, o + j, none⟩ = some (.bool ks[j])
theorem BAt.chg {w w' : World} {a : Option Addr} {ks : List Bool} (hc : BAt w a ks) (c : Chg (fun _ => False) w w') : BAt w' a ks := by
  intro j hj
  obtain ⟨b, o, rfl, h1⟩ := hc j hj
  refine ⟨b, o, rfl, ?_⟩
  rw [World.cell?_of_block (w := w) (c.block b (World.block_lt_of_cell? w _ h1) (fun h => h))]
  exact h1

theorem own_base {w : World} {base : Nat} {e : TypeId} {size : Nat} {v : Value} {n : Nat} {xs : List Value} (h : w.ownsRow base e size v n xs) : w.ownsRow 0 e size v n xs := by
  refine ⟨h.1, ?_⟩
  rcases h.2 with h | ⟨g, cap, cur, hv, _, r⟩
  · exact .inl h
  · exact .inr ⟨g, cap, cur, hv, Nat.zero_le _, r⟩
/-- A disk stays what it is while other blocks are written. -/
theorem DAt.keep {T : Nat → Prop} {w1 : World} (h : DAt w B rs rp m d) (c : Chg T w w1) (hn : ∀ k, DS B rs rp m k → ¬ T k) : DAt w1 B rs rp m d := by
  obtain ⟨ok, vs, vp, hrs, hrp, hb, hs, hp, hm⟩ := h
  exact ⟨ok, vs, vp, hrs, hrp, c.heap hb (hn B (.inl rfl)), c.row hs (fun k hk => hn k (.inr (.inl (by rw [← hrs]; exact hk)))), c.row hp (fun k hk => hn k (.inr (.inr (.inl (by rw [← hrp]; exact hk))))), hm.chg c (hn m (.inr (.inr (.inr rfl))))⟩

def dcrash (d : Dk) (ks : List Bool) : Dk × Nat := ({ safe := dset d.safe (keptOf d.pend ks), pend := [], stops := false, after := 0, dead := false }, (keptOf d.pend ks).length)

set_option maxHeartbeats 1600000 in
theorem kCrash (ak : Option Addr) (ck : Nat) (ks : List Bool) (h : DAt w B rs rp m d) (hv : BAt w ak ks) (hks : ks.length ≤ 1000000) : Calls Tryd.prog 24 #[.pointer (some ⟨B, 0, none⟩), .slice ak ks.length ck] w fun e w' => e = .returned (.int .i64 (dcrash d ks).2) ∧ DPost w w' B rs rp m (dcrash d ks).1 := by
  obtain ⟨i, hi, hz0, hz1, hz2⟩ := info_parts Tryd.infoWr
  obtain ⟨sa, cs, ap, cp, c0, c1, c2, c3, c4, c5, hf, hB⟩ := h.cells
  have hok := h.1
  have hmany := hok.many
  have hown : w.ownsRow 0 90 2 (.slice ap d.pend.length cp) d.pend.length (pcells d.pend) := by
    obtain ⟨_, vs, vp, _, _, hb, _, hp, _⟩ := h
    have e : w.cell? ⟨B, 1, none⟩ = some vp := cell_of hb rfl
    rw [c1] at e
    have e := Option.some.inj e
    rw [← e] at hp
    exact hp
  obtain ⟨kf, hkf⟩ : ∃ kf, kf = keptOf d.pend ks := ⟨_, rfl⟩
  rw [show dcrash d ks = ({ safe := dset d.safe kf, pend := [], stops := false, after := 0, dead := false }, kf.length) by rw [hkf]; rfl]
  replace hkf := Lib.hid hkf
  clear c0 c2 c3 c4 c5 hf
  go_enter Tryd.func24, Tryd.ntmps24
  go_wp2
  go_loopw [5, 15] (fun v i wr => ∃ k : Nat, k ≤ d.pend.length ∧ i = .int .i64 k ∧ wr.ownsRow w.heap.size 90 2 v (keptOf (d.pend.take k) ks).length (pcells (keptOf (d.pend.take k) ks)) ∧ Chg (fun _ => False) w wr) (fun _ i _ => d.pend.length - (intOf i).toNat)
  case atStart => exact ⟨0, Nat.zero_le _, rfl, World.ownsRow_nil _ _ _ _, Chg.refl _ _⟩
  case round =>
    obtain ⟨k, hk, rfl, ho, hc⟩ := hrel
    by_cases hlt : k < d.pend.length
    · obtain ⟨g, e0, e1, hal, hgl⟩ : ∃ g, w.cell? ⟨g, k * 2, none⟩ = some (.int .i64 ((d.pend[k]).1 : Int)) ∧ w.cell? ⟨g, k * 2 + 1, none⟩ = some (.string (mk (d.pend[k]).2)) ∧ ap = some ⟨g, 0, none⟩ ∧ g < w.heap.size := by
        have hcells := fun (g : Nat) => hown.cells (g := g)
        rcases hown.2 with ⟨h0, h1⟩ | ⟨g, cap, cur, hv, _, hg, _⟩
        · omega
        · simp only [Value.slice.injEq, true_and] at hv
          obtain ⟨rfl, rfl⟩ := hv
          have hp := pcells_at d.pend k hlt
          have a0 := hcells g (by simp [Value.ownBlock]) (2 * k) _ hp.1
          have a1 := hcells g (by simp [Value.ownBlock]) (2 * k + 1) _ hp.2
          rw [Addr.add_lit, Nat.zero_add, Nat.mul_comm] at a0 a1
          exact ⟨g, a0, a1, rfl, lt_of hg⟩
      subst hal
      have e0' := (World.cell?_of_block (w := w) (hc.block g hgl (fun h => h))).trans e0
      have e1' := (World.cell?_of_block (w := w) (hc.block g hgl (fun h => h))).trans e1
      have hsn := keptOf_snoc (d.pend[k]) (d.pend.take k) ks
      rw [← List.take_succ_eq_append_getElem hlt, List.length_take, Nat.min_eq_left (by omega)] at hsn
      obtain ⟨p, hp⟩ : ∃ p, p = d.pend[k] := ⟨_, rfl⟩
      rw [← hp] at e0' e1' hsn
      have hlen := keptOf_length (d.pend.take k) ks
      rw [List.length_take, Nat.min_eq_left (by omega)] at hlen
      obtain ⟨kk, hkk⟩ : ∃ kk, kk = keptOf (d.pend.take k) ks := ⟨_, rfl⟩
      rw [← hkk] at ho hsn hlen
      have HO := Lib.hid ho
      have HS := Lib.hid hsn
      clear e0 e1 hp hsn ho
      replace hkk := Lib.hid hkk
      have hkc := hv.chg hc
      by_cases hlk : k < ks.length
      · obtain ⟨kb, koff, rfl, hkcell⟩ := hkc k hlk
        clear hkc
        have hb : ks.getD k false = ks[k] := by simp [hlk]
        have HSS := HS.out
        rw [hb] at HSS
        obtain ⟨bb, hbb⟩ : ∃ bb, bb = ks[k] := ⟨_, rfl⟩
        rw [← hbb] at hkcell HSS
        clear hb hbb HS
        have hkB : kb < wr.heap.size := World.block_lt_of_cell? wr _ hkcell
        have hgB : g < wr.heap.size := World.block_lt_of_cell? wr _ e0'
        cases bb
        · have hr1 : (wr.alloc (.cells #[.int .i64 (p.1 : Int), .string (mk p.2)] 90)).ownsRow w.heap.size 90 2 u5 (keptOf (d.pend.take (k + 1)) ks).length (pcells (keptOf (d.pend.take (k + 1)) ks)) := by
            rw [HSS]; simpa using HO.out.alloc _
          have HR1 := Lib.hid hr1
          clear hr1 HSS
          go_wp2
          go_roundw
          case rel => exact ⟨k + 1, hlt, by go_num, HR1.out, hc.alloc _⟩
          case measure => simp [intOf]; omega
        · have HSS := Lib.hid HSS
          go_wp2_with (at_builtin; refine wpList_append_own' rfl (.tmp 30) (.tmp 32) 60 rfl w.heap.size 90 i (.agg #[.int .i64 0, .string ByteArray.empty]) 2 24 Tryd.underlying60 hi hz0 hz1 hz2 rfl (by decide) u5 _ _ rfl ((HO.out.alloc _).alloc _) ⟨wr.heap.size + 1, 0, none⟩ 1 1 (pcells [p]) rfl rfl (new_two _ _ _ _ (by simp)) (by intro u hu; simp [pcells] at hu; rcases hu with rfl | rfl <;> rfl) (by unfold maxLen; omega) (by omega) (by have := hc.size; simp; omega) ?_; intro v' w1 hown' hgrow hrow; have HO' := Lib.hid hown'; have hc1 : Chg (fun _ => False) w w1 := ((hc.alloc _).alloc _).grown hgrow (fun j hj e => by have := HO.out.lt j e; omega); clear hown' hgrow hrow)
          have hr1 : w1.ownsRow w.heap.size 90 2 v' (keptOf (d.pend.take (k + 1)) ks).length (pcells (keptOf (d.pend.take (k + 1)) ks)) := by
            rw [HSS.out, List.length_append, pcells_append]; exact HO'.out
          have HR1 := Lib.hid hr1
          clear hr1 HSS HO'
          go_roundw
          case rel => exact ⟨k + 1, hlt, by go_num, HR1.out, hc1⟩
          case measure => simp [intOf]; omega
      · have hb : ks.getD k false = false := by simp [hlk]
        have HSS := HS.out
        rw [hb] at HSS
        clear hkc
        have hr1 : (wr.alloc (.cells #[.int .i64 (p.1 : Int), .string (mk p.2)] 90)).ownsRow w.heap.size 90 2 u5 (keptOf (d.pend.take (k + 1)) ks).length (pcells (keptOf (d.pend.take (k + 1)) ks)) := by
          rw [HSS]; simpa using HO.out.alloc _
        have HR1 := Lib.hid hr1
        clear hr1 HSS HS hb
        go_wp2
        go_roundw
        case rel => exact ⟨k + 1, hlt, by go_num, HR1.out, hc.alloc _⟩
        case measure => simp [intOf]; omega
    · have e : k = d.pend.length := by omega
      subst e
      rw [List.take_length] at ho
      have hd1 := h.keep hc (fun _ _ h => h)
      have hlen := keptOf_length d.pend ks
      have hkk := hkf.out
      have hsub : ∀ p ∈ kf, p.1 < d.safe.length ∧ p.2.length = 64 := fun p hp => hok.pend p (keptOf_sub _ _ p (by rw [← hkk]; exact hp))
      rw [← hkk] at ho hlen
      have ho0 : wr.ownsRow 0 90 2 u5 kf.length (pcells kf) := own_base ho
      have S := Lib.hid (ksettle u5 kf hd1 ho0 hsub (by omega))
      obtain ⟨ua, ul, uc, rfl, rfl⟩ := own_form ho
      have HC := Lib.hid hc
      clear hd1 hsub ho ho0 hkk hc hok hown h hv c1
      go_wp2_with fail
      refine S.out.mono ?_
      rintro e w1 ⟨rfl, h1, h2⟩
      obtain ⟨sa', cs', ap', cp', d0, d1, d2, d3, d4, d5, hf, hB1⟩ := h1.cells
      have f3 := hf 3
      have f4 := hf 4
      have f5 := hf 5
      have fin : DPost w (((w1.setCell ⟨B, 3, none⟩ (.bool false)).setCell ⟨B, 4, none⟩ (.int .i64 0)).setCell ⟨B, 5, none⟩ (.bool false)) B rs rp m { safe := dset d.safe kf, pend := [], stops := false, after := 0, dead := false } :=
        DPost.settled (((h1.set3 false).set4 0 (by omega)).set5 false) ((((HC.out.mono (fun _ _ h => h.elim)).trans h2 (fun _ _ e => e)).setCell (a := ⟨B, 3, none⟩) (fun _ => .inl rfl) _).setCell (a := ⟨B, 4, none⟩) (fun _ => .inl rfl) _ |>.setCell (a := ⟨B, 5, none⟩) (fun _ => .inl rfl) _)
      have FIN := Lib.hid fin
      clear h1 h2 d0 d1 d2 hf fin
      go_wp2
      go_ret
      exact ⟨rfl, FIN.out⟩
end
end Go.Proofs.YtofejnhnnmnfpaaDoor.Dq
