/- Rows of records beside a log: those that came in, those that are gathered. No condition. -/
import Derived.Test.YtofejnhnnmnfpaaDoorWlE
import Derived.Test.YtofejnhnnmnfpaaDoorWlR
namespace Go.Proofs.YtofejnhnnmnfpaaDoor
set_option maxRecDepth 100000
open Go.RowKit
instance : Inhabited Rp := ⟨⟨⟨0, 0, 0, 0, [], false, ⟨[], [], 0, 0⟩, [], [], [], []⟩, .slice none 0 0, .slice none 0 0, .slice none 0 0, .slice none 0 0⟩⟩
/-- What is known of a record that came in. -/
structure RpIn (w : World) (p : Rp) : Prop where
  at_ : Rc.RecAt w p.val p.vp p.vt p.vx p.vd p.r
  l1 : p.r.pats.length ≤ 140737488351232
  l2 : p.r.txs.length ≤ 140737488351232
  l3 : p.r.pages.length ≤ 9223372036854775807
  l4 : ∀ t ∈ p.r.txs, t.pages.length ≤ 9223372036854775807
theorem RpIn.more {w w' : World} {p : Rp} (h : RpIn w p) (hb : Below w.heap.size w w') : RpIn w' p := ⟨h.at_.more hb, h.l1, h.l2, h.l3, h.l4⟩
theorem rpcells_at (ps : List Rp) (k : Nat) (hk : k < ps.length) (i : Nat) (hi : i < 14) : (rpcells ps)[k * 14 + i]? = (ps[k]).cells[i]? := by
  rw [rpcells, Rc.flat_at Rp.cells 14 (fun _ => rfl) ps k hk i hi]
theorem rpcells_len (ps : List Rp) : (rpcells ps).length = ps.length * 14 := by
  induction ps with
  | nil => rfl
  | cons p ps ih => rw [show rpcells (p :: ps) = p.cells ++ rpcells ps by simp [rpcells], List.length_append, ih, List.length_cons, Nat.succ_mul]; show 14 + _ = _; omega
/-- Rows that came in, as values. -/
theorem rows_rp {w : World} {a : Option Addr} {rs : List Rc.Rec} (h : ∀ j (hj : j < rs.length), Rc.RecRow w a j rs[j]) : ∃ ps : List Rp, ps.map Rp.r = rs ∧ (∀ p ∈ ps, RpIn w p) ∧ ∀ c, RdAt w (.slice a rs.length c) rs.length (rpcells ps) := by
  have hone : ∀ j, j < rs.length → ∃ p : Rp, p.r = rs.getD j default ∧ RpIn w p ∧ ∃ b o, a = some ⟨b, o, none⟩ ∧ ∀ i u, i < 14 → p.cells[i]? = some u → w.cell? ⟨b, o + j * 14 + i, none⟩ = some u := by
    intro j hj
    obtain ⟨b, o, vp, vt, vx, vd, ea, hc, hR, l1, l2, l3, l4⟩ := h j hj
    refine ⟨⟨rs[j], vp, vt, vx, vd⟩, by simp [List.getD, hj], ⟨hR, l1, l2, l3, l4⟩, b, o, ea, fun i u hi hu => ?_⟩
    have := hc i hi
    rw [this]
    have e : (Rp.cells ⟨rs[j], vp, vt, vx, vd⟩)[i]? = _ := hu
    unfold Rp.cells at e
    rw [List.getElem?_eq_getElem (by simpa using hi)] at e
    exact e
  obtain ⟨f, hf⟩ := Go.Deep.choose_lt (α := Rp) hone
  refine ⟨(List.range rs.length).map f, ?_, ?_, fun c => ⟨a, c, rfl, fun j u hj => ?_⟩⟩
  · refine List.ext_getElem (by simp) fun j h1 h2 => ?_
    simp only [List.getElem_map, List.getElem_range]
    rw [(hf j h2).1]
    simp [List.getD, h2]
  · intro p hp
    obtain ⟨j, hj, rfl⟩ := List.mem_map.1 hp
    exact (hf j (by simpa using hj)).2.1
  · have hl := (List.getElem?_eq_some_iff.1 hj).1
    rw [rpcells_len, List.length_map, List.length_range] at hl
    have hk : j / 14 < rs.length := by omega
    obtain ⟨_, _, b, o, ea, hc⟩ := hf (j / 14) hk
    refine ⟨b, o, ea, ?_⟩
    have e := rpcells_at ((List.range rs.length).map f) (j / 14) (by simpa using hk) (j % 14) (by omega)
    rw [show j / 14 * 14 + j % 14 = j by omega, hj] at e
    have := hc (j % 14) u (by omega) (by simpa using e.symm)
    rwa [show o + j / 14 * 14 + j % 14 = o + j by omega] at this
/-- The blocks of two rows. -/
def KB (vj va : Value) : Nat → Prop := fun k => vj.ownBlock = some k ∨ va.ownBlock = some k
/-- At the head of a round: the joined row, those that are gathered, the log. -/
structure LaI (w wr : World) (B : Nat) (d : Dq.Dk) (G : Nat) (L : Lg) (S : List (List UInt8)) (s : Fr.St) (vj va : Value) (ps : List Rp) (i : Nat) : Prop where
  sys : Sys (KB vj va) w.heap.size wr wr B d G L
  was : Below w.heap.size w wr
  rj : wr.ownsRow w.heap.size 37 14 vj ps.length (rpcells ps)
  ra : wr.ownsRow w.heap.size 37 14 va i (rpcells (ps.take i))
  dis : ∀ k, vj.ownBlock = some k → va.ownBlock ≠ some k
  on : On d L S s
  first : L.first = 2
  secs : L.secs = 2000
  epoch : L.epoch = 5
  stops : d.stops = false
  size : d.safe.length = 2100
  all : L.l = (ps.take i).map Rp.r
  le : i ≤ ps.length
  last : s.l = [] ∨ s.last = 5
section
variable {w wr w4 w5 w6 w7 : World} {B G : Nat} {d d' : Dq.Dk} {L L' : Lg} {S S' : List (List UInt8)} {s s' : Fr.St} {vj va v' : Value} {ps : List Rp} {i : Nat}
theorem LaI.len (h : LaI w wr B d G L S s vj va ps i) : L.l.length = i := by rw [h.all, List.length_map, List.length_take]; have := h.le; omega
/-- The cells of the round's record. -/
theorem LaI.at_ (h : LaI w wr B d G L S s vj va ps i) (hi : i < ps.length) (p : Rp) (hp : p = ps[i]) : ∃ g c, vj = .slice (some ⟨g, 0, none⟩) ps.length c ∧ g < wr.heap.size ∧ ∀ k u, k < 14 → p.cells[k]? = some u → wr.cell? ⟨g, i * 14 + k, none⟩ = some u := by
  rcases h.rj.2 with ⟨_, h0⟩ | ⟨g, cap, cur, e, _⟩
  · omega
  refine ⟨g, cap, e, (h.rj.lt g (by rw [e]; rfl)).2, fun k u hk hu => ?_⟩
  have hx : (rpcells ps)[i * 14 + k]? = some u := by rw [rpcells_at ps i hi k hk, ← hp]; exact hu
  have := h.rj.cells (g := g) (by rw [e]; rfl) (i * 14 + k) u hx
  rwa [Addr.add_lit, Nat.zero_add] at this
/-- A box for the round's variable. -/
theorem LaI.box (h : LaI w wr B d G L S s vj va ps i) (b4 : Below wr.heap.size wr w4) (hz : wr.heap.size < w4.heap.size) : Sys (fun k => KB vj va k ∨ k = wr.heap.size) w.heap.size w4 w4 B d G L :=
  h.sys.rebase (Chg.of_below b4) (fun k hk => hk.elim (fun e => ⟨.inl e, by
    rcases e with e | e
    · have := (h.rj.lt k e).2; have := b4.size; omega
    · have := (h.ra.lt k e).2; have := b4.size; omega⟩) (fun e => ⟨.inr (by omega), by omega⟩))
/-- One more is gathered. -/
theorem LaI.step (h : LaI w wr B d G L S s vj va ps i) (hi : i < ps.length) (b4 : Below wr.heap.size wr w4) {oT : Obj} {p : Rp} (hp : p = ps[i]) (hS5 : Sys (fun k => KB vj va k ∨ k = wr.heap.size) w.heap.size w4 w5 B d G L')
    (hA : AppPost (w5.alloc oT) w.heap.size 37 14 va i (rpcells (ps.take i)) 1 p.cells v' w6) (on' : On d L' S s) (f1 : L'.first = L.first) (f2 : L'.secs = L.secs) (f3 : L'.epoch = L.epoch) (hL : L'.l = L.l ++ [p.r]) : LaI w w6 B d G L' S s vj v' ps (i + 1) := by
  have hsz : (w5.alloc oT).heap.size = w5.heap.size + 1 := by simp
  have hc6 : Chg (fun k => va.ownBlock = some k) w5 w6 := ((Chg.refl (fun k => va.ownBlock = some k) w5).alloc oT).trans hA.chg (fun _ _ e => e)
  have hs4 := b4.size
  have hst := hS5.stay
  have hs6 := hA.grows
  have hs5 := hst.size
  have ra4 : w5.ownsRow w.heap.size 37 14 va i (rpcells (ps.take i)) := hst.row ((Chg.of_below (S := fun _ => False) b4).row h.ra (fun _ _ => id)) (fun k e hn => hn (.inl (.inr e)))
  have rj5 : w5.ownsRow w.heap.size 37 14 vj ps.length (rpcells ps) := hst.row ((Chg.of_below (S := fun _ => False) b4).row h.rj (fun _ _ => id)) (fun k e hn => hn (.inl (.inl e)))
  have htk : ps.take (i + 1) = ps.take i ++ [p] := by rw [List.take_succ_eq_append_getElem hi, hp]
  refine ⟨hS5.rebase (hc6.mono (fun k _ e => .inl (.inr e))) (fun k hk => ?_), ?_, hc6.row rj5 (fun k e => h.dis k e), ?_, ?_, on', f1.trans h.first, f2.trans h.secs, f3.trans h.epoch, h.stops, h.size, ?_, hi, h.last⟩
  · rcases hk with e | e
    · exact ⟨.inl (.inl (.inl e)), by have := (rj5.lt k e).2; omega⟩
    · refine ⟨?_, (hA.1.lt k e).2⟩
      rcases hA.blk e with e' | e'
      · exact .inl (.inl (.inr e'))
      · exact .inr (by omega)
  · have hw := h.was.size
    exact (hS5.was.1.trans (hc6.below (B := w.heap.size) (fun k _ e => (ra4.lt k e).1) hS5.was.2)).casesOn (fun a b c e f => (h.was.trans (b4.mono hw)).trans ⟨a, b, c, e, f⟩)
  · rw [htk, rpcells_append, rpcells_one]
    exact hA.1
  · intro k e e'
    rcases hA.blk e' with e2 | e2
    · exact h.dis k e e2
    · have := (rj5.lt k e).2; omega
  · rw [hL, h.all, htk, List.map_append]; rfl
/-- What waited is laid down. -/
theorem LaI.flush (h : LaI w w6 B d G L S s vj va ps i) (hS : Sys (KB vj va) w.heap.size w6 w7 B d' G L') (on' : On d' L' S' s') (f1 : L'.first = L.first) (f2 : L'.secs = L.secs) (f3 : L'.epoch = L.epoch) (f4 : d'.stops = false) (f5 : d'.safe.length = d.safe.length) (hL : L'.l = L.l) (hl : s'.l = [] ∨ s'.last = L.epoch) : LaI w w7 B d' G L' S' s' vj va ps i := by
  have hst := hS.stay
  refine ⟨hS.rebase (Chg.refl _ _) (fun k hk => ⟨.inl hk, ?_⟩), h.was.trans hS.was.1, hst.row h.rj (fun k e hn => hn (.inl e)), hst.row h.ra (fun k e hn => hn (.inr e)), h.dis, on', f1.trans h.first, f2.trans h.secs, f3.trans h.epoch, f4, f5.trans h.size, hL.trans h.all, h.le, by rw [h.epoch] at hl; exact hl⟩
  rcases hk with e | e
  · have := (h.rj.lt k e).2; have := hst.size; omega
  · have := (h.ra.lt k e).2; have := hst.size; omega
end
end Go.Proofs.YtofejnhnnmnfpaaDoor
