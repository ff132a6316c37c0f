/- A crash in the midst of a batch: what is read of the log behind it. No condition. -/
import Derived.Test.YtofejnhnnmnfpaaDoorWVs
namespace Go.Proofs.YtofejnhnnmnfpaaDoor
set_option maxRecDepth 100000
open Dq (dset keptOf zsec Dk dcrash)
open Fr (stream st0 recsOk)

/-- Some of the writes laid down. -/
theorem dset_some : ∀ (bs : List (List UInt8)) (ps : List (Nat × List UInt8)) (l : List (List UInt8)) (n i : Nat) (_ : n + bs.length ≤ l.length) (h : i < bs.length), ps.Sublist (wlist n bs) →
    (dset l ps).getD (n + i) [] = bs[i] ∨ (dset l ps).getD (n + i) [] = l.getD (n + i) []
  | [], _, _, _, _, _, h, _ => by simp at h
  | b :: bs, ps, l, n, i, hl, h, hs => by
    simp only [List.length_cons] at hl h
    rw [wlist] at hs
    cases hs with
    | cons _ hs =>
      cases i with
      | zero => exact .inr (by rw [Nat.add_zero, dset_get _ _ _ (fun p hp => by have := wlist_mem bs (n + 1) p (hs.subset hp); omega)])
      | succ i =>
        rw [show n + (i + 1) = (n + 1) + i by omega]
        exact dset_some bs ps l (n + 1) i (by omega) (by omega) hs
    | cons_cons _ hs =>
      rename_i ps'
      have e : dset l ((n, b) :: ps') = dset (l.set n b) ps' := rfl
      rw [e]
      cases i with
      | zero =>
        refine .inl ?_
        rw [Nat.add_zero, dset_get _ _ _ (fun p hp => by have := wlist_mem bs (n + 1) p (hs.subset hp); omega)]
        simp [List.getD, List.getElem?_set]
        rw [if_pos (by omega)]
        rfl
      | succ i =>
        rw [show n + (i + 1) = (n + 1) + i by omega]
        rcases dset_some bs ps' (l.set n b) (n + 1) i (by rw [List.length_set]; omega) (by omega) hs with e1 | e1
        · exact .inl e1
        · refine .inr (e1.trans ?_)
          have : n ≠ n + 1 + i := by omega
          simp [List.getD, this]
theorem kept_sub {α : Type} : ∀ (l : List α) (ks : List Bool), (keptOf l ks).Sublist l
  | [], _ => by simp [keptOf]
  | p :: l, [] => by simp [keptOf]
  | p :: l, b :: ks => by
    cases b
    · simpa [keptOf] using (kept_sub l ks).cons p
    · simpa [keptOf] using (kept_sub l ks).cons_cons p
theorem wlist_take : ∀ (k n : Nat) (bs : List (List UInt8)), (wlist n (bs.take k)).Sublist (wlist n bs)
  | 0, _, _ => by simp [wlist]
  | _ + 1, _, [] => by simp [wlist]
  | k + 1, n, b :: bs => by simp only [List.take_succ_cons, wlist]; exact (wlist_take k (n + 1) bs).cons_cons _
/-- Up to the first that is not there. -/
theorem upto : ∀ (xs bt : List (List UInt8)), xs.length = bt.length → (∀ i (h : i < xs.length) (h' : i < bt.length), xs[i] = bt[i] ∨ xs[i] = zsec) → ∃ m rest, xs = bt.take m ++ rest ∧ ∀ tl s, Fr.scan s (rest ++ zsec :: tl) = s ∧ (tl = [] → Fr.scan s rest = s)
  | [], [], _, _ => ⟨0, [], rfl, fun tl s => ⟨Fr.scan_none _ (take_zsec s), fun _ => rfl⟩⟩
  | [], _ :: _, h, _ => by simp at h
  | _ :: _, [], h, _ => by simp at h
  | x :: xs, b :: bt, h, hx => by
    rcases hx 0 (by simp) (by simp) with e | e
    · obtain ⟨m, rest, e1, e2⟩ := upto xs bt (by simpa using h) (fun i h h' => by have := hx (i + 1) (by simpa using h) (by simpa using h'); simpa using this)
      simp only [List.getElem_cons_zero] at e
      exact ⟨m + 1, rest, by rw [List.take_succ_cons, e, e1]; rfl, e2⟩
    · simp only [List.getElem_cons_zero] at e
      subst e
      exact ⟨0, zsec :: xs, rfl, fun tl s => ⟨Fr.scan_none _ (take_zsec s), fun _ => Fr.scan_none _ (take_zsec s)⟩⟩
/-- The epoch of the last record. -/
theorem scan_last {E : Nat} : ∀ (l : List (List UInt8)) (s : Fr.St), (s.l = [] ∨ s.last = E) → (∀ b ∈ l, ∀ x, Fr.dec b = some x → x.epoch = E) → ((Fr.scan s l).l = [] ∨ (Fr.scan s l).last = E)
  | [], s, h, _ => h
  | b :: l, s, h, hb => by
    cases ht : Fr.take s b with
    | none => rw [Fr.scan_none _ ht]; exact h
    | some s' =>
      rw [Fr.scan_some _ ht]
      refine scan_last l s' ?_ (fun c hc => hb c (List.mem_cons_of_mem _ hc))
      obtain ⟨x, hd, _, e⟩ := Fr.take_fits ht
      have hx := hb b (List.mem_cons_self ..) x hd
      rw [e]
      unfold Fr.eat
      simp only
      split
      · by_cases c : (Fr.drain ((if x.fresh = true then [] else s.b) ++ x.pay)).1 = []
        · simp only [c, List.append_nil, if_true]; exact h
        · simp only [if_neg c]; exact .inr hx
      · exact h
theorem scan_lastle {E : Nat} : ∀ (l : List (List UInt8)) (s : Fr.St), s.last ≤ E → (∀ b ∈ l, ∀ x, Fr.dec b = some x → x.epoch ≤ E) → (Fr.scan s l).last ≤ E
  | [], s, h, _ => h
  | b :: l, s, h, hb => by
    cases ht : Fr.take s b with
    | none => rw [Fr.scan_none _ ht]; exact h
    | some s' =>
      rw [Fr.scan_some _ ht]
      refine scan_lastle l s' ?_ (fun c hc => hb c (List.mem_cons_of_mem _ hc))
      obtain ⟨x, hd, _, e⟩ := Fr.take_fits ht
      have hx := hb b (List.mem_cons_self ..) x hd
      rw [e]
      unfold Fr.eat
      simp only
      split
      · by_cases c : (Fr.drain ((if x.fresh = true then [] else s.b) ++ x.pay)).1 = []
        · simp only [c, if_true]; exact h
        · simp only [if_neg c]; exact hx
      · exact h
/-- The log behind a crash while a batch was being written: the first records of all. -/
theorem On.crash {d d' : Dk} {L : Lg} {S : List (List UInt8)} {s : Fr.St} (h : On d L S s) (hw : L.wait ≠ []) {ps : List (Nat × List UInt8)} (hps : ps.Sublist (wlist (L.first + L.end_) (Fr.batD L.epoch L.end_ L.wait))) (hd : d'.safe = dset d.safe ps) (hp : d'.pend = []) (hdd : d'.dead = false) :
    ∃ m r, m ≤ L.l.length ∧ s.l.length ≤ m ∧ Fr.scan st0 (rdOf d' L.first L.secs) = r ∧ r.l = (L.l.take m).map Rc.enc ∧ r.last ≤ L.epoch ∧ ((s.l = [] ∨ s.last = L.epoch) → (r.l = [] ∨ r.last = L.epoch)) := by
  have hlen := h.batLen hw
  have hf := h.fit
  have hr := h.room
  have h2 := h.secs
  have h3 := h.ep
  have hle := h.len
  have hbs := h.batD hw
  obtain ⟨bt, hbt⟩ : ∃ bt, bt = Fr.batD L.epoch L.end_ L.wait := ⟨_, rfl⟩
  rw [← hbt] at hlen hps hbs
  have hsafe : d'.safe.length = d.safe.length := by rw [hd, Dq.dset_length]
  have hget : ∀ i, i < L.secs → (Dq.dread d' ((L.first : Int) + (i : Int))).1 = (dset d.safe ps).getD (L.first + i) [] := fun i hi => by
    rw [show ((L.first : Int) + (i : Int)) = ((L.first + i : Nat) : Int) by omega, dread_safe hdd hp (by omega), hd]
  obtain ⟨xs, hxs⟩ : ∃ xs, xs = (List.range bt.length).map fun (i : Nat) => (dset d.safe ps).getD (L.first + L.end_ + i) [] := ⟨_, rfl⟩
  have hxl : xs.length = bt.length := by rw [hxs]; simp
  have hrd : rdOf d' L.first L.secs = S ++ xs ++ List.replicate (L.secs - L.end_ - bt.length) zsec := by
    refine List.ext_getElem (by simp [rdOf, hxl, hle]; omega) fun i i1 i2 => ?_
    rw [rdOf_length] at i1
    simp only [rdOf, List.getElem_map, List.getElem_range]
    rw [hget i i1]
    by_cases c1 : i < S.length
    · rw [List.getElem_append_left (by rw [List.length_append]; omega), List.getElem_append_left c1, dset_get _ _ _ (fun p hp => by have := wlist_mem _ _ p (hps.subset hp); omega)]
      exact h.sec i c1
    · by_cases c2 : i < L.end_ + bt.length
      · rw [List.getElem_append_left (by rw [List.length_append]; omega), List.getElem_append_right (by omega)]
        simp only [hxs, List.getElem_map, List.getElem_range]
        congr 1
        omega
      · rw [List.getElem_append_right (by rw [List.length_append]; omega), List.getElem_replicate, dset_get _ _ _ (fun p hp => by have := wlist_mem _ _ p (hps.subset hp); omega)]
        exact h.rest i (by omega) i1
  obtain ⟨m, rest, e1, e2⟩ := upto xs bt hxl (fun i i1 i2 => by
    simp only [hxs, List.getElem_map, List.getElem_range]
    rcases dset_some bt ps d.safe (L.first + L.end_) i (by omega) i2 hps with e | e
    · exact .inl e
    · refine .inr (e.trans ?_)
      rw [Nat.add_assoc]
      exact h.rest (L.end_ + i) (by omega) (by omega))
  have hscan : Fr.scan st0 (rdOf d' L.first L.secs) = Fr.scan s (bt.take m) := by
    rw [hrd, List.append_assoc, h.scan, e1, List.append_assoc]
    have hst : ∀ (a b : List (List UInt8)) (s : Fr.St), (∀ t, Fr.scan t b = t) → Fr.scan s (a ++ b) = Fr.scan s a := by
      intro a b
      induction a with
      | nil => intro s hb; exact hb s
      | cons x a ih =>
        intro s hb
        rw [List.cons_append]
        cases ht : Fr.take s x with
        | none => rw [Fr.scan_none _ ht, Fr.scan_none _ ht]
        | some s' => rw [Fr.scan_some _ ht, Fr.scan_some _ ht]; exact ih s' hb
    refine hst _ _ s (fun t => ?_)
    cases hn : L.secs - L.end_ - bt.length with
    | zero => rw [List.replicate_zero, List.append_nil]; exact (e2 [] t).2 rfl
    | succ n => rw [List.replicate_succ]; exact (e2 _ t).1
  have hbe : ∀ b ∈ bt.take m, ∀ x, Fr.dec b = some x → x.epoch = L.epoch := by
    intro b hb x hx
    have hb' := List.mem_of_mem_take hb
    rw [hbs] at hb' hlen
    obtain ⟨k, hk, rfl⟩ := List.getElem_of_mem hb'
    rw [Fr.secs_get] at hx
    have hok : Fr.secOk L.epoch (L.end_ + k) (((stream L.wait).drop (56 * k)).take 56) = true := by
      refine Fr.secOk_iff.2 ?_
      simp only [List.length_take, List.length_drop]
      have hk' := hk
      rw [Fr.secs_len] at hk'
      omega
    rw [Fr.dec_enc hok] at hx
    cases hx
    rfl
  have hL := scan_last (E := L.epoch) (bt.take m) s
  by_cases hm : m = 0
  · subst hm
    rw [List.take_zero] at hscan
    refine ⟨s.l.length, s, by have := h.lens; omega, Nat.le_refl _, hscan, ?_, h.slast, fun e => e⟩
    rw [List.map_take, ← h.sl, List.take_append_of_le_length (Nat.le_refl _), List.take_length]
  · have hne : L.wait ≠ [] := hw
    have hsn : stream L.wait ≠ [] := Fr.stream_ne hne
    have htk : bt.take m = Fr.secs L.epoch L.end_ true ((stream L.wait).take (56 * m)) := by rw [hbs, Fr.secs_take]
    have hpos := List.length_pos_iff.2 hsn
    have hb : (stream L.wait).take (56 * m) ≠ [] := by
      intro e
      have := congrArg List.length e
      rw [List.length_take, List.length_nil] at this
      omega
    obtain ⟨en, la, g1, g2, g3⟩ := Fr.scan_secs h.waitOk h3.1 h3.2 s [] (b := (stream L.wait).take (56 * m)) (z := (stream L.wait).drop (56 * m)) (List.take_append_drop _ _) hb (i := L.end_) (by
      have : ((stream L.wait).take (56 * m)).length ≤ (stream L.wait).length := by rw [List.length_take]; omega
      rw [lcnt_ok h.waitOk, Fr.cnt] at hf
      omega) h.sat h.sep (by rw [h.send]; exact Nat.le_refl _)
    rw [List.append_nil, ← htk] at g1
    obtain ⟨_, mm, hmm⟩ := Fr.drain_prefix h.waitOk (List.take_append_drop (56 * m) (stream L.wait))
    rw [g1] at hscan hL
    have hsm : Fr.scan (Fr.mid s.l L.epoch (L.end_ + (((stream L.wait).take (56 * m)).length + 55) / 56) ((stream L.wait).take (56 * m)) en la) [] = Fr.mid s.l L.epoch (L.end_ + (((stream L.wait).take (56 * m)).length + 55) / 56) ((stream L.wait).take (56 * m)) en la := rfl
    have hrl : (Fr.mid s.l L.epoch (L.end_ + (((stream L.wait).take (56 * m)).length + 55) / 56) ((stream L.wait).take (56 * m)) en la).l = s.l ++ (Fr.drain ((stream L.wait).take (56 * m))).1 := rfl
    have hlm := congrArg List.length hmm
    rw [List.length_append] at hlm
    have hlens := h.lens
    refine ⟨s.l.length + (Fr.drain ((stream L.wait).take (56 * m))).1.length, _, by omega, by omega, hscan, ?_, ?_, fun e => ?_⟩
    · obtain ⟨dr, hdr⟩ : ∃ dr, dr = (Fr.drain ((stream L.wait).take (56 * m))).1 := ⟨_, rfl⟩
      rw [← hdr] at hmm
      rw [hsm, hrl, ← hdr, List.map_take, ← h.sl, ← hmm, ← List.append_assoc, ← List.length_append, List.take_append_of_le_length (Nat.le_refl _), List.take_length]
    · have := scan_lastle (bt.take m) s h.slast (fun b hb x hx => by rw [hbe b hb x hx]; exact Nat.le_refl _)
      rw [g1] at this
      exact this
    · exact hL e hbe
/-- What a flush leaves of the disk. -/
theorem lflush_ok {d : Dk} {L : Lg} {S : List (List UInt8)} {s : Fr.St} (h : On d L S s) (hw : L.wait ≠ []) (hs : d.stops = false ∨ lcnt L.wait ≤ d.after) :
    ∃ L' d', lflush L d = (L', d', 0) ∧ d'.safe = dset d.safe (wlist (L.first + L.end_) (Fr.batD L.epoch L.end_ L.wait)) ∧ d'.pend = [] ∧ d'.dead = false := by
  have hlen := h.batLen hw
  have h64 := h.bat64 hw
  have hf := h.fit
  have hr := h.room
  have hlw := lwr_ok (Fr.batD L.epoch L.end_ L.wait) d (L.first + L.end_) h.live (by rw [hlen]; exact hs) (by omega) h64
  have hcast : ((L.first : Int) + (L.end_ : Int)) = ((L.first + L.end_ : Nat) : Int) := by omega
  refine ⟨{ L with wait := [], end_ := L.end_ + (Fr.batD L.epoch L.end_ L.wait).length }, { safe := dset d.safe (d.pend ++ wlist (L.first + L.end_) (Fr.batD L.epoch L.end_ L.wait)), pend := [], stops := d.stops, after := d.after - (Fr.batD L.epoch L.end_ L.wait).length, dead := d.dead }, by
    rw [lflush, if_neg hw, h.batOk hw, if_neg (by decide), hcast, hlw]
    simp only [ne_eq, not_true, if_false]
    rw [Dq.dsync]
    simp only [h.live, Bool.false_eq_true, if_false, not_true], ?_, rfl, h.live⟩
  show dset d.safe (d.pend ++ _) = _
  rw [h.pend, List.nil_append]
/-- A flush, and the epoch of the last record. -/
theorem On.flush_last {d : Dk} {L : Lg} {S : List (List UInt8)} {s : Fr.St} (h : On d L S s) (hs : d.stops = false) (hse : s.l = [] ∨ s.last = L.epoch) :
    ∃ d' S' s', lflush L d = ({ L with wait := [], end_ := L.end_ + lcnt L.wait }, d', 0) ∧ On d' { L with wait := [], end_ := L.end_ + lcnt L.wait } S' s' ∧ d'.stops = false ∧ (s'.l = [] ∨ s'.last = L.epoch) ∧ d'.safe.length = d.safe.length := by
  by_cases hw : L.wait = []
  · have h0 : lcnt [] = 0 := rfl
    have e : ({ L with wait := [], end_ := L.end_ + lcnt L.wait } : Lg) = L := by
      obtain ⟨f, se, ep, l, wt, en⟩ := L
      simp only at hw
      subst hw
      simp [h0]
    rw [e]
    exact ⟨d, S, s, by rw [lflush, if_pos hw], h, hs, hse, rfl⟩
  · obtain ⟨d', s', f1, on3, f3, f4⟩ := h.flushed hw (.inl hs)
    obtain ⟨L2, d2, g1, g2, g3, g4⟩ := lflush_ok h hw (.inl hs)
    rw [f1] at g1
    simp only [Prod.mk.injEq] at g1
    obtain ⟨_, rfl, _⟩ := g1
    obtain ⟨m, r, _, _, hr, _, _, hl⟩ := h.crash hw (List.Sublist.refl _) g2 g3 g4
    have := on3.scanned
    rw [show ({ L with wait := [], end_ := L.end_ + lcnt L.wait } : Lg).first = L.first from rfl, show ({ L with wait := [], end_ := L.end_ + lcnt L.wait } : Lg).secs = L.secs from rfl, hr] at this
    subst this
    exact ⟨d', _, _, f1, on3, by rw [f3]; exact hs, hl hse, f4⟩
/-- The machine stops, or does not, while what waits is flushed; then it crashes. -/
theorem On.stopped {d : Dk} {L : Lg} {S : List (List UInt8)} {s : Fr.St} (h : On d L S s) (hse : s.l = [] ∨ s.last = L.epoch) (n : Int) (ks : List Bool) :
    ∃ L' d' x, lflush L (Dq.dstop d n) = (L', d', x) ∧ L'.l = L.l ∧ ∃ m r, m ≤ L.l.length ∧ s.l.length ≤ m ∧ Fr.scan st0 (rdOf (dcrash d' ks).1 L.first L.secs) = r ∧ r.l = (L.l.take m).map Rc.enc ∧ r.last ≤ L.epoch ∧ (m = 0 ∨ r.last = L.epoch) ∧ (x = 0 → m = L.l.length) ∧ (dcrash d' ks).1.dead = false ∧ (dcrash d' ks).1.safe.length = d.safe.length := by
  have hd1 : (Dq.dstop d n).safe = d.safe ∧ (Dq.dstop d n).pend = [] ∧ (Dq.dstop d n).dead = false := by
    unfold Dq.dstop
    rw [h.live, if_neg (by decide)]
    exact ⟨rfl, h.pend, rfl⟩
  obtain ⟨z1, z2, z3⟩ := hd1
  have h1 : On (Dq.dstop d n) L S s := h.same z1 z2 z3
  obtain ⟨d1, hd1⟩ : ∃ d1, d1 = Dq.dstop d n := ⟨_, rfl⟩
  rw [← hd1] at z1 z2 z3 h1 ⊢
  have hlens := h.lens
  have fin : ∀ (r : Fr.St) (m : Nat), m ≤ L.l.length → r.l = (L.l.take m).map Rc.enc → (r.l = [] ∨ r.last = L.epoch) → (m = 0 ∨ r.last = L.epoch) := by
    intro r m hm hr hl
    rcases hl with e | e
    · rw [e] at hr
      have := congrArg List.length hr
      rw [List.length_map, List.length_take, List.length_nil] at this
      exact .inl (by omega)
    · exact .inr e
  by_cases hw : L.wait = []
  · refine ⟨L, d1, 0, by rw [lflush, if_pos hw], rfl, L.l.length, s, Nat.le_refl _, by omega, ?_, ?_, h.slast, ?_, fun _ => rfl, rfl, ?_⟩
    · obtain ⟨c1, c2, c3, _⟩ := dcrash_none z2 ks
      exact (h1.same c1 c2 c3).scanned
    · rw [List.take_length, ← h.sl, hw, List.append_nil]
    · exact fin s _ (Nat.le_refl _) (by rw [List.take_length, ← h.sl, hw, List.append_nil]) hse
    · rw [(dcrash_none z2 ks).1, z1]
  · by_cases hs : d1.stops = false ∨ lcnt L.wait ≤ d1.after
    · obtain ⟨L2, d2, g1, g2, g3, g4⟩ := lflush_ok h1 hw hs
      obtain ⟨d', s', f1, on3, f3, f4⟩ := h1.flushed hw hs
      rw [g1] at f1
      simp only [Prod.mk.injEq] at f1
      obtain ⟨hL2, rfl, _⟩ := f1
      obtain ⟨c1, c2, c3, _⟩ := dcrash_none g3 ks
      obtain ⟨m, r, k1, k2, k3, k4, k5, k6⟩ := h1.crash hw (List.Sublist.refl _) (c1.trans g2) c2 c3
      have hsc := (on3.same c1 c2 c3).scanned
      rw [show ({ L with wait := [], end_ := L.end_ + lcnt L.wait } : Lg).first = L.first from rfl, show ({ L with wait := [], end_ := L.end_ + lcnt L.wait } : Lg).secs = L.secs from rfl, k3] at hsc
      have hall : r.l = L.l.map Rc.enc := by have := on3.sl; rw [← hsc] at this; simpa using this
      refine ⟨L2, d2, 0, g1, by rw [hL2], m, r, k1, k2, k3, k4, k5, fin r m k1 k4 (k6 hse), fun _ => ?_, c3, by rw [c1, g2, Dq.dset_length, z1]⟩
      rw [k4] at hall
      have := congrArg List.length hall
      rw [List.length_map, List.length_map, List.length_take] at this
      omega
    · have hst : d1.stops = true := by
        cases e : d1.stops with
        | true => rfl
        | false => exact absurd (.inl e) hs
      have haf : d1.after < lcnt L.wait := by
        rcases Nat.lt_or_ge d1.after (lcnt L.wait) with e | e
        · exact e
        · exact absurd (.inr e) hs
      have hlen := h1.batLen hw
      have hlw := lwr_stop (Fr.batD L.epoch L.end_ L.wait) d1 (L.first + L.end_) z3 hst (by omega) (by have := h1.fit; have := h1.room; omega) (h1.bat64 hw)
      have hcast : ((L.first : Int) + (L.end_ : Int)) = ((L.first + L.end_ : Nat) : Int) := by omega
      refine ⟨L, { d1 with after := 0, pend := d1.pend ++ wlist (L.first + L.end_) ((Fr.batD L.epoch L.end_ L.wait).take d1.after), dead := true }, 10, by
        rw [lflush, if_neg hw, h1.batOk hw, if_neg (by decide), hcast, hlw]
        simp only [ne_eq, show ¬ ((10 : Int) = 0) by decide, not_false_eq_true, if_true], rfl, ?_⟩
      have hsub : (keptOf (d1.pend ++ wlist (L.first + L.end_) ((Fr.batD L.epoch L.end_ L.wait).take d1.after)) ks).Sublist (wlist (L.first + L.end_) (Fr.batD L.epoch L.end_ L.wait)) := by
        rw [z2, List.nil_append]
        exact (kept_sub _ ks).trans (wlist_take _ _ _)
      obtain ⟨m, r, k1, k2, k3, k4, k5, k6⟩ := h1.crash (d' := (dcrash { d1 with after := 0, pend := d1.pend ++ wlist (L.first + L.end_) ((Fr.batD L.epoch L.end_ L.wait).take d1.after), dead := true } ks).1) hw hsub rfl rfl rfl
      exact ⟨m, r, k1, k2, k3, k4, k5, fin r m k1 k4 (k6 hse), fun e => absurd e (by decide), rfl, by show (dset d1.safe _).length = _; rw [Dq.dset_length, z1]⟩
end Go.Proofs.YtofejnhnnmnfpaaDoor
