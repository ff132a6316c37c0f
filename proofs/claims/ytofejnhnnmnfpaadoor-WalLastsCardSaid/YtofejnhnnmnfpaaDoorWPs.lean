/- A log as plain data: what its methods answer. No condition. -/
import Derived.Test.YtofejnhnnmnfpaaDoorWlM
import Derived.Test.YtofejnhnnmnfpaaDoorFBs
import Derived.BigQuiet
import Derived.IntWalk
import Derived.Deep.QuietTactic
import Derived.Deep.RegionHeld3
namespace Go.Proofs.YtofejnhnnmnfpaaDoor
set_option maxRecDepth 100000

/-- How many sectors records take. -/
def lcnt (l : List (List UInt8)) : Nat := ((Fr.bytesOf l).length + 55) / 56
def lapp (L : Lg) (r : Rc.Rec) : Lg × Int × Int :=
  if Rc.recOk r = false then (L, 0, 1)
  else if (L.secs : Int) - L.end_ < lcnt (L.wait ++ [Rc.enc r]) then (L, 0, 7)
  else ({ L with l := L.l ++ [r], wait := L.wait ++ [Rc.enc r] }, L.l.length + 1, 0)
/-- Sectors written one behind the other. -/
def lwr (d : Dq.Dk) (n : Int) : List (List UInt8) → Dq.Dk × Int
  | [] => (d, 0)
  | b :: bs => if (Dq.dwrite d n b).2 = 0 then lwr (Dq.dwrite d n b).1 (n + 1) bs else Dq.dwrite d n b
def lflush (L : Lg) (d : Dq.Dk) : Lg × Dq.Dk × Int :=
  if L.wait = [] then (L, d, 0)
  else if Fr.batOk L.epoch L.end_ L.wait = false then (L, d, 1)
  else if (lwr d (L.first + L.end_) (Fr.batD L.epoch L.end_ L.wait)).2 ≠ 0 then (L, lwr d (L.first + L.end_) (Fr.batD L.epoch L.end_ L.wait))
  else if (Dq.dsync (lwr d (L.first + L.end_) (Fr.batD L.epoch L.end_ L.wait)).1).2 ≠ 0 then (L, Dq.dsync (lwr d (L.first + L.end_) (Fr.batD L.epoch L.end_ L.wait)).1)
  else ({ L with wait := [], end_ := L.end_ + (Fr.batD L.epoch L.end_ L.wait).length }, (Dq.dsync (lwr d (L.first + L.end_) (Fr.batD L.epoch L.end_ L.wait)).1).1, 0)
end Go.Proofs.YtofejnhnnmnfpaaDoor
/- A disk and the log on it, as plain data: what Flush lays down, what is read of it. No condition. -/
namespace Go.Proofs.YtofejnhnnmnfpaaDoor
set_option maxRecDepth 100000
open Dq (dread dwrite dsync dstop dcrash dset keptOf isIn latest zsec Dk)
open Fr (stream scan st0 recsOk)

/-! ### records' bytes are fit for the log -/
theorem psum_le' (l : List Rc.Pt) (h : ∀ p ∈ l, p.bytes.length ≤ 256) : (l.map fun p => 6 + p.bytes.length).sum ≤ 262 * l.length := by
  induction l with
  | nil => simp
  | cons p l ih =>
    have h1 := h p (by simp)
    have h2 := ih (fun q hq => h q (by simp [hq]))
    simp; omega
theorem tsum_le' (l : List Rc.Tt) (h : ∀ p ∈ l, p.pages.length ≤ 64) : (l.map fun t => 10 + 2 * t.pages.length).sum ≤ 138 * l.length := by
  induction l with
  | nil => simp
  | cons p l ih =>
    have h1 := h p (by simp)
    have h2 := ih (fun q hq => h q (by simp [hq]))
    simp; omega
theorem enc_fit {r : Rc.Rec} (h : Rc.RecOk r) : 1 ≤ (Rc.enc r).length ∧ (Rc.enc r).length ≤ 65535 := by
  have h0 := h.key
  have h1 : r.pages.length ≤ 64 := by have := h.pages; simp [Rc.pagesOk] at this; omega
  have h2 := psum_le' r.pats (fun p hp => by
    have := h.patsOk p hp
    simp only [Rc.patOk, Bool.and_eq_true, decide_eq_true_eq] at this
    omega)
  have h3 := tsum_le' r.txs (fun t ht => by
    have := h.txsOk t ht
    simp [Rc.txOk, Rc.pagesOk] at this
    omega)
  have h4 := h.pats
  have h5 := h.txs
  have h6 := h.dirty
  have h7 : r.old.key.length ≤ 16 ∧ r.old.val.length ≤ 40 := by
    rcases h.old with e | e
    · rw [e]; decide
    · simp only [Rc.cellOk, Bool.and_eq_true, decide_eq_true_eq] at e
      obtain ⟨⟨_, e1⟩, e2⟩ := e
      by_cases hb : r.old.blob = 0
      · rw [if_pos hb] at e2
        simp only [Bool.and_eq_true, decide_eq_true_eq] at e2
        omega
      · rw [if_neg hb] at e2
        simp only [Bool.and_eq_true, decide_eq_true_eq] at e2
        rw [e2.1.1.2]
        exact ⟨e1, by simp⟩
  rw [Rc.enc_length]
  omega
theorem recs_ok {l : List Rc.Rec} (h : ∀ r ∈ l, Rc.RecOk r) : recsOk (l.map Rc.enc) := by
  intro b hb
  obtain ⟨r, hr, rfl⟩ := List.mem_map.1 hb
  exact enc_fit (h r hr)
theorem lcnt_ok {l : List (List UInt8)} (h : recsOk l) : lcnt l = Fr.cnt l := by rw [lcnt, Fr.bytesOf_ok h, Fr.cnt]

/-! ### sectors that are written -/
def wlist (n : Nat) : List (List UInt8) → List (Nat × List UInt8)
  | [] => []
  | b :: bs => (n, b) :: wlist (n + 1) bs
theorem wlist_length : ∀ (bs : List (List UInt8)) (n : Nat), (wlist n bs).length = bs.length
  | [], _ => rfl
  | b :: bs, n => by rw [wlist, List.length_cons, wlist_length bs, List.length_cons]
theorem wlist_mem : ∀ (bs : List (List UInt8)) (n : Nat) (p : Nat × List UInt8), p ∈ wlist n bs → n ≤ p.1 ∧ p.1 < n + bs.length ∧ p.2 ∈ bs
  | [], _, _, h => by cases h
  | b :: bs, n, p, h => by
    rw [wlist] at h
    rcases List.mem_cons.1 h with rfl | h
    · simp
    · have := wlist_mem bs (n + 1) p h
      simp only [List.length_cons, List.mem_cons]
      exact ⟨by omega, by omega, .inr this.2.2⟩
theorem isIn_nat {d : Dk} {n : Nat} (h : n < d.safe.length) : isIn d (n : Int) = true := by simp [isIn]; omega
/-- All are written. -/
theorem lwr_ok : ∀ (bs : List (List UInt8)) (d : Dk) (n : Nat), d.dead = false → (d.stops = false ∨ bs.length ≤ d.after) → n + bs.length ≤ d.safe.length → (∀ b ∈ bs, b.length = 64) →
    lwr d n bs = ({ d with after := d.after - bs.length, pend := d.pend ++ wlist n bs }, 0)
  | [], d, n, _, _, _, _ => by simp [lwr, wlist]
  | b :: bs, d, n, h1, h2, h3, h4 => by
    simp only [List.length_cons] at h2 h3
    have hw : dwrite d n b = ({ d with after := d.after - 1, pend := d.pend ++ [(n, b)] }, 0) := by
      have hs : ¬ (d.stops = true ∧ d.after = 0) := fun ⟨a, c⟩ => by
        rcases h2 with e | e
        · rw [e] at a; cases a
        · omega
      rw [dwrite, h1, isIn_nat (d := d) (n := n) (by omega), if_neg (by decide), if_neg (by decide), if_neg (by rw [h4 b (by simp)]; simp), if_neg hs, Int.toNat_natCast]
    rw [lwr, hw]
    simp only [if_true]
    rw [show ((n : Int) + 1) = ((n + 1 : Nat) : Int) by omega, lwr_ok bs { d with after := d.after - 1, pend := d.pend ++ [(n, b)] } (n + 1) h1 (h2.imp id (fun e => by show bs.length ≤ d.after - 1; omega)) (by show n + 1 + bs.length ≤ d.safe.length; omega) (fun b hb => h4 b (by simp [hb]))]
    simp only [wlist, List.append_assoc, List.cons_append, List.nil_append, List.length_cons, Nat.sub_sub, Nat.add_comm]
/-- The machine stops on the way. -/
theorem lwr_stop : ∀ (bs : List (List UInt8)) (d : Dk) (n : Nat), d.dead = false → d.stops = true → d.after < bs.length → n + bs.length ≤ d.safe.length → (∀ b ∈ bs, b.length = 64) →
    lwr d n bs = ({ d with after := 0, pend := d.pend ++ wlist n (bs.take d.after), dead := true }, 10)
  | [], d, n, _, _, h, _, _ => by simp at h
  | b :: bs, d, n, h1, h2, h5, h3, h4 => by
    simp only [List.length_cons] at h5 h3
    by_cases h0 : d.after = 0
    · have hw : dwrite d n b = ({ d with dead := true }, 10) := by
        rw [dwrite, h1, isIn_nat (d := d) (n := n) (by omega), if_neg (by decide), if_neg (by decide), if_neg (by rw [h4 b (by simp)]; simp), if_pos ⟨h2, h0⟩]
      rw [lwr, hw]
      simp only [show ¬ ((10 : Int) = 0) by decide, if_false, h0, List.take_zero, wlist, List.append_nil]
    · have hw : dwrite d n b = ({ d with after := d.after - 1, pend := d.pend ++ [(n, b)] }, 0) := by
        rw [dwrite, h1, isIn_nat (d := d) (n := n) (by omega), if_neg (by decide), if_neg (by decide), if_neg (by rw [h4 b (by simp)]; simp), if_neg (fun c => h0 c.2), Int.toNat_natCast]
      obtain ⟨m, hm⟩ : ∃ m, d.after = m + 1 := ⟨d.after - 1, by omega⟩
      rw [lwr, hw]
      simp only [if_true]
      rw [show ((n : Int) + 1) = ((n + 1 : Nat) : Int) by omega, lwr_stop bs { d with after := d.after - 1, pend := d.pend ++ [(n, b)] } (n + 1) h1 h2 (by show d.after - 1 < bs.length; omega) (by show n + 1 + bs.length ≤ d.safe.length; omega) (fun b hb => h4 b (by simp [hb]))]
      simp only [hm, Nat.add_sub_cancel, List.take_succ_cons, wlist, List.append_assoc, List.cons_append, List.nil_append]
/-- Laid down, sector by sector. -/
theorem dset_get : ∀ (ps : List (Nat × List UInt8)) (l : List (List UInt8)) (k : Nat), (∀ p ∈ ps, p.1 ≠ k) → (dset l ps).getD k [] = l.getD k []
  | [], l, k, _ => rfl
  | p :: ps, l, k, h => by
    have : dset l (p :: ps) = dset (l.set p.1 p.2) ps := rfl
    rw [this, dset_get ps _ k (fun q hq => h q (by simp [hq]))]
    have := h p (by simp)
    simp [List.getD, this]
theorem dset_wlist : ∀ (bs : List (List UInt8)) (l : List (List UInt8)) (n i : Nat) (_ : n + bs.length ≤ l.length) (h : i < bs.length), (dset l (wlist n bs)).getD (n + i) [] = bs[i]
  | [], _, _, _, _, h => by simp at h
  | b :: bs, l, n, 0, hl, h => by
    have : dset l (wlist n (b :: bs)) = dset (l.set n b) (wlist (n + 1) bs) := rfl
    simp only [List.length_cons] at hl
    rw [this, dset_get _ _ _ (fun p hp => by have := wlist_mem bs (n + 1) p hp; omega)]
    simp [List.getD, List.getElem?_set]
    rw [if_pos (by omega)]
    rfl
  | b :: bs, l, n, i + 1, hl, h => by
    have : dset l (wlist n (b :: bs)) = dset (l.set n b) (wlist (n + 1) bs) := rfl
    simp only [List.length_cons] at hl h
    rw [this, show n + (i + 1) = (n + 1) + i by omega, dset_wlist bs _ (n + 1) i (by rw [List.length_set]; omega) (by omega)]
    rfl
/-- What is read of the log's sectors. -/
def rdOf (d : Dk) (first secs : Nat) : List (List UInt8) := (List.range secs).map fun (i : Nat) => (dread d ((first : Int) + (i : Int))).1
theorem rdOf_length (d : Dk) (first secs : Nat) : (rdOf d first secs).length = secs := by simp [rdOf]
theorem dread_safe {d : Dk} (h1 : d.dead = false) (h2 : d.pend = []) {n : Nat} (h : n < d.safe.length) : dread d (n : Int) = (d.safe.getD n [], 0) := by
  rw [dread, h1, isIn_nat h, if_neg (by decide), if_pos rfl, h2, Int.toNat_natCast]
  rfl

/-! ### a log on a disk: nothing is pending -/
structure On (d : Dk) (L : Lg) (S : List (List UInt8)) (s : Fr.St) : Prop where
  live : d.dead = false
  pend : d.pend = []
  size : d.safe.length ≤ 10000
  room : L.first + L.secs ≤ d.safe.length
  secs : 1 ≤ L.secs ∧ L.secs ≤ 4000
  ep : 1 ≤ L.epoch ∧ L.epoch ≤ 4294967295
  len : S.length = L.end_
  fit : L.end_ + lcnt L.wait ≤ L.secs
  sec : ∀ i (h : i < S.length), d.safe.getD (L.first + i) [] = S[i]
  rest : ∀ i, L.end_ ≤ i → i < L.secs → d.safe.getD (L.first + i) [] = zsec
  scan : ∀ tl, Fr.scan st0 (S ++ tl) = Fr.scan s tl
  sat : s.at_ = L.end_
  send : s.end_ = L.end_
  sep : s.epoch ≤ L.epoch
  slast : s.last ≤ L.epoch
  sl : s.l ++ L.wait = L.l.map Rc.enc
  ok : ∀ r ∈ L.l, Rc.RecOk r
section
variable {d : Dk} {L : Lg} {S : List (List UInt8)} {s : Fr.St}
theorem take_zsec (s : Fr.St) : Fr.take s zsec = none := by
  have : Fr.dec zsec = none := by rw [Dq.zsec_eq]; exact Fr.dec_zeros
  rw [Fr.take, this]
theorem On.waitOk (h : On d L S s) : recsOk L.wait := by
  have := recs_ok h.ok
  rw [← h.sl] at this
  exact fun b hb => this b (List.mem_append_right _ hb)
theorem On.slOk (h : On d L S s) : recsOk s.l := by
  have := recs_ok h.ok
  rw [← h.sl] at this
  exact fun b hb => this b (List.mem_append_left _ hb)
theorem On.lens (h : On d L S s) : s.l.length + L.wait.length = L.l.length := by
  have := congrArg List.length h.sl
  simpa using this
theorem On.rd (h : On d L S s) : rdOf d L.first L.secs = S ++ List.replicate (L.secs - L.end_) zsec := by
  have hf := h.fit
  have hl := h.len
  refine List.ext_getElem (by simp [rdOf, h.len]; omega) fun i h1 h2 => ?_
  rw [rdOf_length] at h1
  have hr : L.first + i < d.safe.length := by have := h.room; omega
  simp only [rdOf, List.getElem_map, List.getElem_range]
  rw [show ((L.first : Int) + (i : Int)) = ((L.first + i : Nat) : Int) by omega, dread_safe h.live h.pend hr]
  by_cases hi : i < S.length
  · rw [List.getElem_append_left hi]; exact h.sec i hi
  · rw [List.getElem_append_right (by omega), List.getElem_replicate]; exact h.rest i (by omega) h1
theorem On.scanned (h : On d L S s) : Fr.scan st0 (rdOf d L.first L.secs) = s := by
  rw [h.rd, h.scan]
  cases hn : L.secs - L.end_ with
  | zero => rfl
  | succ n => rw [List.replicate_succ]; exact Fr.scan_none _ (take_zsec s)
/-- Read anew, in a later epoch. -/
theorem On.opened (h : On d L S s) (e : Nat) (he : s.last < e) (hse : s.epoch ≤ e) (he' : e ≤ 4294967295) (n : Nat) (hn : L.l.length = n + L.wait.length) : On d { L with epoch := e, l := L.l.take n, wait := [], end_ := L.end_ } S s := by
  have hl := h.lens
  have hf := h.fit
  refine ⟨h.live, h.pend, h.size, h.room, h.secs, ⟨by show 1 ≤ e; omega, he'⟩, h.len, by show L.end_ + lcnt [] ≤ L.secs; have : lcnt [] = 0 := rfl; omega, h.sec, h.rest, h.scan, h.sat, h.send, hse, by show s.last ≤ e; omega, ?_, fun r hr => h.ok r (List.mem_of_mem_take hr)⟩
  show s.l ++ [] = (L.l.take n).map Rc.enc
  rw [List.append_nil, List.map_take, ← h.sl, List.take_append_of_le_length (by omega), List.take_of_length_le (by omega)]
/-- One record more. -/
theorem On.app {r : Rc.Rec} (h : On d L S s) (hr : Rc.RecOk r) (hc : L.end_ + lcnt (L.wait ++ [Rc.enc r]) ≤ L.secs) : On d { L with l := L.l ++ [r], wait := L.wait ++ [Rc.enc r] } S s :=
  ⟨h.live, h.pend, h.size, h.room, h.secs, h.ep, h.len, hc, h.sec, h.rest, h.scan, h.sat, h.send, h.sep, h.slast, by show s.l ++ (L.wait ++ [Rc.enc r]) = (L.l ++ [r]).map Rc.enc; rw [← List.append_assoc, h.sl, List.map_append]; rfl, fun q hq => by
    rcases List.mem_append.1 hq with hq | hq
    · exact h.ok q hq
    · rw [List.mem_singleton.1 hq]; exact hr⟩
theorem On.batOk (h : On d L S s) (hw : L.wait ≠ []) : Fr.batOk L.epoch L.end_ L.wait = true := by
  have h1 := h.fit
  have h2 := h.secs
  have h3 := h.ep
  rw [lcnt_ok h.waitOk] at h1
  exact Fr.batOk_iff.2 ⟨h.waitOk, hw, by omega, by omega, by omega, by omega⟩
theorem On.batD (h : On d L S s) (hw : L.wait ≠ []) : Fr.batD L.epoch L.end_ L.wait = Fr.secs L.epoch L.end_ true (stream L.wait) := by
  rw [Fr.batD, h.batOk hw, if_pos rfl, Int.toNat_natCast, Int.toNat_natCast]
theorem On.batLen (h : On d L S s) (hw : L.wait ≠ []) : (Fr.batD L.epoch L.end_ L.wait).length = lcnt L.wait := by
  rw [h.batD hw, Fr.secs_len, lcnt_ok h.waitOk, Fr.cnt]
theorem On.bat64 (h : On d L S s) (hw : L.wait ≠ []) : ∀ b ∈ Fr.batD L.epoch L.end_ L.wait, b.length = 64 := by
  intro b hb
  have hlen := h.batLen hw
  have h1 := h.fit
  have h2 := h.secs
  have h3 := h.ep
  rw [h.batD hw] at hb hlen
  obtain ⟨k, hk, rfl⟩ := List.getElem_of_mem hb
  rw [Fr.secs_get]
  exact Fr.enc_length (by rw [List.length_take]; omega)
/-- The disk with some writes of the batch laid down. -/
theorem On.flushed (h : On d L S s) (hw : L.wait ≠ []) (hs : d.stops = false ∨ lcnt L.wait ≤ d.after) :
    ∃ d' s', lflush L d = ({ L with wait := [], end_ := L.end_ + lcnt L.wait }, d', 0) ∧ On d' { L with wait := [], end_ := L.end_ + lcnt L.wait } (S ++ Fr.batD L.epoch L.end_ L.wait) s' ∧ d'.stops = d.stops ∧ d'.safe.length = d.safe.length := by
  have hlen := h.batLen hw
  have h64 := h.bat64 hw
  have hf := h.fit
  have hr := h.room
  have h2 := h.secs
  have h3 := h.ep
  have hcnt := lcnt_ok h.waitOk
  have hlw := lwr_ok (Fr.batD L.epoch L.end_ L.wait) d (L.first + L.end_) h.live (by rw [hlen]; exact hs) (by omega) h64
  have hcast : ((L.first : Int) + (L.end_ : Int)) = ((L.first + L.end_ : Nat) : Int) := by omega
  obtain ⟨bt, hbt⟩ : ∃ bt, bt = Fr.batD L.epoch L.end_ L.wait := ⟨_, rfl⟩
  have hbs := h.batD hw
  rw [← hbt] at hlw hlen h64 hbs ⊢
  refine ⟨{ safe := dset d.safe (d.pend ++ wlist (L.first + L.end_) bt), pend := [], stops := d.stops, after := d.after - bt.length, dead := d.dead }, ⟨[], true, L.end_ + Fr.cnt L.wait, L.epoch, s.l ++ L.wait, L.end_ + Fr.cnt L.wait, L.epoch⟩, ?_, ?_, rfl, by show (dset d.safe _).length = _; rw [Dq.dset_length]⟩
  · rw [lflush, if_neg hw, h.batOk hw, if_neg (by decide), ← hbt, hcast, hlw]
    simp only [ne_eq, not_true, if_false]
    rw [dsync]
    simp only [h.live, Bool.false_eq_true, if_false, not_true, hlen]
  · have hd : dset d.safe (d.pend ++ wlist (L.first + L.end_) bt) = dset d.safe (wlist (L.first + L.end_) bt) := by rw [h.pend, List.nil_append]
    refine ⟨h.live, rfl, by rw [Dq.dset_length]; exact h.size, by rw [Dq.dset_length]; exact hr, h2, h3, by rw [List.length_append, h.len, hlen], by show L.end_ + lcnt L.wait + lcnt [] ≤ L.secs; have : lcnt [] = 0 := rfl; omega, ?_, ?_, ?_, by rw [hcnt], by rw [hcnt], Nat.le_refl _, Nat.le_refl _, by show (s.l ++ L.wait) ++ [] = _; rw [List.append_nil]; exact h.sl, h.ok⟩
    · intro i hi
      show (dset d.safe (d.pend ++ wlist (L.first + L.end_) bt)).getD (L.first + i) [] = _
      rw [hd]
      rw [List.length_append] at hi
      by_cases c : i < S.length
      · rw [List.getElem_append_left c, dset_get _ _ _ (fun p hp => by have := wlist_mem _ _ p hp; have := h.len; omega)]
        exact h.sec i c
      · rw [List.getElem_append_right (by omega)]
        have := dset_wlist bt d.safe (L.first + L.end_) (i - S.length) (by omega) (by omega)
        rw [← this]
        congr 1
        have := h.len
        omega
    · intro i h1 h2'
      show (dset d.safe (d.pend ++ wlist (L.first + L.end_) bt)).getD (L.first + i) [] = _
      rw [hd, dset_get _ _ _ (fun p hp => by have := wlist_mem _ _ p hp; have h1' : L.end_ + lcnt L.wait ≤ i := h1; omega)]
      exact h.rest i (by have h1' : L.end_ + lcnt L.wait ≤ i := h1; omega) h2'
    · intro tl
      rw [List.append_assoc, h.scan, hbs]
      exact Fr.scan_batch h.waitOk hw h3.1 h3.2 s tl (by omega) h.sat h.sep (by rw [h.send]; exact Nat.le_refl _)
end
/-- A new disk. -/
theorem on_new (n first secs epoch : Nat) (hn : n ≤ 10000) (h1 : first + secs ≤ n) (h2 : 1 ≤ secs ∧ secs ≤ 4000) (h3 : 1 ≤ epoch ∧ epoch ≤ 4294967295) : On (Dq.dnew n) ⟨first, secs, epoch, [], [], 0⟩ [] st0 := by
  have hg : ∀ k, k < n → (Dq.dnew n).safe.getD k [] = zsec := fun k hk => by simp [Dq.dnew, List.getD, hk]
  refine ⟨rfl, rfl, by simpa [Dq.dnew] using hn, by simpa [Dq.dnew] using h1, h2, h3, rfl, by show 0 + lcnt [] ≤ secs; have : lcnt [] = 0 := rfl; omega, fun i h => by simp at h, fun i _ h => hg _ (by show first + i < n; have h' : i < secs := h; omega), fun tl => rfl, rfl, rfl, Nat.zero_le _, Nat.zero_le _, rfl, fun r hr => by cases hr⟩
end Go.Proofs.YtofejnhnnmnfpaaDoor
/- Small methods of a log. No condition. -/
namespace Go.Proofs.YtofejnhnnmnfpaaDoor
set_option maxRecDepth 100000
open Go.RowKit
theorem wl_drewN {B : Nat} {w w' : World} (h : Below B w w') (n : Nat) : Below B w (w'.drewN n) := ⟨h.os, h.tape, h.output, h.size, h.block⟩
theorem wl_cell {w w' : World} {a : Addr} {v : Value} (hb : Below w.heap.size w w') (h : w.cell? a = some v) : w'.cell? a = some v :=
  (World.cell?_of_block (w := w) (hb.block _ (World.block_lt_of_cell? w _ h))).trans h
/-- What Left reads, whatever was made meanwhile. -/
theorem lf_more {w0 w w' : World} {G secs end_ : Nat} {aw : Option Addr} {cw : Nat} {wl : List (List UInt8)}
    (h : w.cell? ⟨G, 2, none⟩ = some (.int .i64 (secs : Int)) ∧ w.cell? ⟨G, 6, none⟩ = some (.int .i64 (end_ : Int)) ∧ w.cell? ⟨G, 5, none⟩ = some (.slice aw wl.length cw) ∧ Hid (Fr.TAt w aw wl ∧ Below w0.heap.size w0 w)) (hb : Below w.heap.size w w') :
    w'.cell? ⟨G, 2, none⟩ = some (.int .i64 (secs : Int)) ∧ w'.cell? ⟨G, 6, none⟩ = some (.int .i64 (end_ : Int)) ∧ w'.cell? ⟨G, 5, none⟩ = some (.slice aw wl.length cw) ∧ Hid (Fr.TAt w' aw wl ∧ Below w0.heap.size w0 w') :=
  ⟨wl_cell hb h.1, wl_cell hb h.2.1, wl_cell hb h.2.2.1, Lib.hid ⟨h.2.2.2.out.1.more hb, h.2.2.2.out.2.trans (hb.mono h.2.2.2.out.2.size)⟩⟩
theorem lf_count {w0 w : World} {G secs end_ : Nat} {aw : Option Addr} {cw x : Nat} {wl : List (List UInt8)} (hx : x = lcnt wl) (hl : (Fr.stream wl).length ≤ 1000000)
    (h : w.cell? ⟨G, 2, none⟩ = some (.int .i64 (secs : Int)) ∧ w.cell? ⟨G, 6, none⟩ = some (.int .i64 (end_ : Int)) ∧ w.cell? ⟨G, 5, none⟩ = some (.slice aw wl.length cw) ∧ Hid (Fr.TAt w aw wl ∧ Below w0.heap.size w0 w)) :
    Calls Tryd.prog 33 #[.slice aw wl.length cw] w fun e w' => e = .returned (.int .i64 (x : Int)) ∧ (w'.cell? ⟨G, 2, none⟩ = some (.int .i64 (secs : Int)) ∧ w'.cell? ⟨G, 6, none⟩ = some (.int .i64 (end_ : Int)) ∧ w'.cell? ⟨G, 5, none⟩ = some (.slice aw wl.length cw) ∧ Hid (Fr.TAt w' aw wl ∧ Below w0.heap.size w0 w')) :=
  (Fr.count_any aw cw wl w (by omega) h.2.2.2.out.1).mono fun _ _ ⟨he, hb⟩ => ⟨by rw [he, hx]; rfl, lf_more h hb⟩
section
variable {w : World} {B G : Nat} {T : Nat → Prop} {L : Lg} {vl vw : Value} {ps : List Rp}
theorem xLast (h : LX w B G T L vl vw ps) : Calls Tryd.prog 14 #[.pointer (some ⟨G, 0, none⟩)] w fun e w' => e = .returned (.int .i64 (L.l.length : Int)) ∧ w = w' := by
  obtain ⟨al, cl, aw, cw, _, _, c0, c1, c2, c3, c4, c5, c6, hf, hG⟩ := h.cells
  clear c0 c1 c2 c3 c5 c6 hf hG h
  go_enter Tryd.func14, Tryd.ntmps14
  go_wp2
  go_ret
  exact ⟨rfl, rfl⟩
theorem xEpoch (h : LX w B G T L vl vw ps) : Calls Tryd.prog 16 #[.pointer (some ⟨G, 0, none⟩)] w fun e w' => e = .returned (.int .i64 (L.epoch : Int)) ∧ w = w' := by
  obtain ⟨al, cl, aw, cw, _, _, c0, c1, c2, c3, c4, c5, c6, hf, hG⟩ := h.cells
  clear c0 c1 c2 c4 c5 c6 hf hG h
  go_enter Tryd.func16, Tryd.ntmps16
  go_wp2
  go_ret
  exact ⟨rfl, rfl⟩
theorem xDurable (h : LX w B G T L vl vw ps) (h1 : L.l.length ≤ 1000000) (h2 : L.wait.length ≤ L.l.length) : Calls Tryd.prog 17 #[.pointer (some ⟨G, 0, none⟩)] w fun e w' => e = .returned (.int .i64 ((L.l.length - L.wait.length : Nat) : Int)) ∧ Below w.heap.size w w' := by
  obtain ⟨al, cl, aw, cw, _, _, c0, c1, c2, c3, c4, c5, c6, hf, hG⟩ := h.cells
  obtain ⟨x, hx⟩ : ∃ x, x = L.l.length - L.wait.length := ⟨_, rfl⟩
  have hxi : (L.l.length : Int) - (L.wait.length : Int) = (x : Int) := by omega
  rw [← hx]
  replace hx := Lib.hid hx
  clear c0 c1 c2 c3 c6 hf hG h
  go_enter Tryd.func17, Tryd.ntmps17
  go_wp2
  go_quiet (fail)
  go_wp2
  go_ret
  exact ⟨rfl, wl_drewN (Below.refl _ _) _⟩
theorem nLast (w : World) : Calls Tryd.prog 14 #[.pointer none] w fun e w' => e = .returned (.int .i64 0) ∧ w = w' := by
  go_enter Tryd.func14, Tryd.ntmps14
  go_wp2
  go_ret
  exact ⟨rfl, rfl⟩
theorem nEpoch (w : World) : Calls Tryd.prog 16 #[.pointer none] w fun e w' => e = .returned (.int .i64 0) ∧ w = w' := by
  go_enter Tryd.func16, Tryd.ntmps16
  go_wp2
  go_ret
  exact ⟨rfl, rfl⟩
theorem xLeft (h : LX w B G T L vl vw ps) (h1 : L.secs ≤ 4000) (h2 : L.end_ ≤ 4000) (h3 : (Fr.stream L.wait).length ≤ 1000000) : Calls Tryd.prog 13 #[.pointer (some ⟨G, 0, none⟩)] w fun e w' => e = .returned (.int .i64 ((L.secs : Int) - L.end_ - lcnt L.wait)) ∧ Below w.heap.size w w' := by
  obtain ⟨al, cl, aw, cw, e1, e2, c0, c1, c2, c3, c4, c5, c6, hf, hG⟩ := h.cells
  have ht : Fr.TAt w aw L.wait := by
    obtain ⟨a, c, e, ht⟩ := Fr.TAt.own h.rw_
    rw [e2] at e
    cases e
    exact ht
  obtain ⟨x, hx⟩ : ∃ x, x = lcnt L.wait := ⟨_, rfl⟩
  have hxl : x ≤ 20000 := by
    rw [hx]
    unfold lcnt Fr.bytesOf
    split
    · omega
    · simp
  have S0 : w.cell? ⟨G, 2, none⟩ = some (.int .i64 (L.secs : Int)) ∧ w.cell? ⟨G, 6, none⟩ = some (.int .i64 (L.end_ : Int)) ∧ w.cell? ⟨G, 5, none⟩ = some (.slice aw L.wait.length cw) ∧ Hid (Fr.TAt w aw L.wait ∧ Below w.heap.size w w) := ⟨c2, c6, c5, Lib.hid ⟨ht, Below.refl _ _⟩⟩
  rw [← hx]
  replace hx := Lib.hid hx
  clear c0 c1 c3 c4 hf h ht e1 e2
  have s1 : IntKind.i64.wrap ((L.secs : Int) - L.end_) = (L.secs : Int) - L.end_ := IntWalk.i64_in _ (by omega)
  have s2 : IntKind.i64.wrap ((L.secs : Int) - L.end_ - x) = (L.secs : Int) - L.end_ - x := IntWalk.i64_in _ (by omega)
  go_enter Tryd.func13, Tryd.ntmps13
  go_wp2
  go_region_held3 (fun w' => w'.cell? ⟨G, 2, none⟩ = some (.int .i64 (L.secs : Int)) ∧ w'.cell? ⟨G, 6, none⟩ = some (.int .i64 (L.end_ : Int)) ∧ w'.cell? ⟨G, 5, none⟩ = some (.slice aw L.wait.length cw) ∧ Hid (Fr.TAt w' aw L.wait ∧ Below w.heap.size w w')) (first | assumption | exact lf_more S0 (Below.refl _ _).drew) (first | (go_at_call 33; refine (lf_count hx.out h3 (by assumption)).mono ?_; rintro e wq ⟨rfl, hq⟩))
  all_goals
    have hfin := Lib.hid hq.2.2.2.out.2
    clear s1 s2
    go_wp2
    go_ret
    exact ⟨rfl, hfin.out⟩
theorem nLeft (w : World) : Calls Tryd.prog 13 #[.pointer none] w fun e w' => e = .returned (.int .i64 0) ∧ w = w' := by
  go_enter Tryd.func13, Tryd.ntmps13
  go_wp2
  go_ret
  exact ⟨rfl, rfl⟩
theorem nDurable (w : World) : Calls Tryd.prog 17 #[.pointer none] w fun e w' => e = .returned (.int .i64 0) ∧ w = w' := by
  go_enter Tryd.func17, Tryd.ntmps17
  go_wp2
  go_ret
  exact ⟨rfl, rfl⟩
end
end Go.Proofs.YtofejnhnnmnfpaaDoor
