/- What Get of package record answers. No condition. -/
import Derived.Test.YtikdjbcfckjccaaDoorRecU
namespace Go.Proofs.YtikdjbcfckjccaaDoor
open Go.RowKit
/-- The record that is zero. -/
def zrec : Value := .agg #[.int .i64 0, .int .i64 0, .int .i64 0, .int .i64 0, .string ⟨#[]⟩, .bool false, .string ⟨#[]⟩, .string ⟨#[]⟩, .int .i64 0, .int .i64 0, .slice none 0 0, .slice none 0 0, .slice none 0 0, .slice none 0 0]
/-- A record's value, its rows of the call's own: at base and above. -/
structure RecOwn (w : World) (base : Nat) (v vp vt vx vd : Value) (r : Rec) : Prop where
  val : v = .agg #[.int .i64 r.kind, .int .i64 r.tx, .int .i64 r.prev, .int .i64 r.next, .string (mk r.key), .bool r.had, .string (mk r.old.key), .string (mk r.old.val), .int .i64 r.old.blob, .int .i64 r.old.size, vp, vt, vx, vd]
  pages : w.ownsRow base 3 1 vp r.pages.length (icells r.pages)
  pats : w.ownsRow base 39 3 vt r.pats.length (patcells r.pats)
  txs : ∃ ps : List (Tt × Value), ps.map (·.1) = r.txs ∧ w.ownsRow base 41 4 vx ps.length (txcells ps) ∧ Inner w base vx ps
  dirty : w.ownsRow base 55 2 vd r.dirty.length (dircells r.dirty)
theorem RecOwn.at_ {w : World} {base : Nat} {v vp vt vx vd : Value} {r : Rec} (h : RecOwn w base v vp vt vx vd r) : RecAt w v vp vt vx vd r := by
  obtain ⟨ps, e, h1, h2⟩ := h.txs
  exact ⟨h.val, isI_of_row h.pages, isP_of_row h.pats, e ▸ isT_of_row h1 h2, isD_of_row h.dirty⟩
theorem RecOwn.chg {S : Nat → Prop} {w w' : World} {base : Nat} {v vp vt vx vd : Value} {r : Rec} (h : RecOwn w base v vp vt vx vd r) (hc : Chg S w w') (hS : ∀ k, S k → k < w.heap.size → k < base) : RecOwn w' base v vp vt vx vd r := by
  have q : ∀ k, base ≤ k ∧ k < w.heap.size → ¬ S k := fun k hk e => by have := hS k e hk.2; omega
  obtain ⟨ps, e, h1, h2⟩ := h.txs
  exact ⟨h.val, hc.row h.pages (fun k hk => q k (h.pages.lt k hk)), hc.row h.pats (fun k hk => q k (h.pats.lt k hk)), ⟨ps, e, hc.row h1 (fun k hk => q k (h1.lt k hk)), h2.chg hc (fun p hp k hk => q k (h2.lt p hp k hk))⟩, hc.row h.dirty (fun k hk => q k (h.dirty.lt k hk))⟩
theorem inner_base {w : World} {base base' : Nat} {v : Value} {ps : List (Tt × Value)} (h : Inner w base v ps) (hb : base' ≤ base) : Inner w base' v ps := fun p hp => ⟨row_base (h p hp).1 hb, (h p hp).2⟩
theorem RecOwn.low {w : World} {base base' : Nat} {v vp vt vx vd : Value} {r : Rec} (h : RecOwn w base v vp vt vx vd r) (hb : base' ≤ base) : RecOwn w base' v vp vt vx vd r := by
  obtain ⟨ps, e, h1, h2⟩ := h.txs
  exact ⟨h.val, row_base h.pages hb, row_base h.pats hb, ⟨ps, e, row_base h1 hb, inner_base h2 hb⟩, row_base h.dirty hb⟩
theorem own_zrec (w : World) (base : Nat) : RecOwn w base zrec (.slice none 0 0) (.slice none 0 0) (.slice none 0 0) (.slice none 0 0) Rec.zero :=
  ⟨rfl, World.ownsRow_nil _ _ _ _, World.ownsRow_nil _ _ _ _, ⟨[], rfl, World.ownsRow_nil _ _ _ _, inner_nil _ _ _⟩, World.ownsRow_nil _ _ _ _⟩
/-- The answer of Get. -/
def GetPost (b : List UInt8) (w : World) (e : Ending) (w' : World) : Prop :=
  ∃ (x : Rec) (s : Rs), Parsed b x s ∧ Below w.heap.size w w' ∧
    ((RecOk x ∧ enc x = b ∧ ∃ v vp vt vx vd, RecOwn w' w.heap.size v vp vt vx vd x ∧ e = .returned (.tuple #[v, .bool true])) ∨ (¬ (RecOk x ∧ enc x = b) ∧ e = .returned (.tuple #[zrec, .bool false])))
theorem parsed_of {b : List UInt8} {k1 k2 k3 k4 k6 k9 k10 k12 k14 k16 : Nat} {k5 k7 k8 : List UInt8} {k11 : List Int} {x13 : List Pt} {x15 : List Tt} {x17 : List (Int × Int)} {s1 s2 s3 s4 s5 s6 s7 s8 s9 s10 s11 s12 s13 s14 s15 s16 s17 : Rs}
    (e1 : (k1, s1) = q2 (b, false)) (e2 : (k2, s2) = q2 s1) (e3 : (k3, s3) = q4 s2) (e4 : (k4, s4) = q4 s3) (e5 : (k5, s5) = qt s4) (e6 : (k6, s6) = q2 s5) (e7 : (k7, s7) = qt s6) (e8 : (k8, s8) = qt s7) (e9 : (k9, s9) = q2 s8) (e10 : (k10, s10) = q2 s9) (e11 : (k11, s11) = qnums s10)
    (e12 : (k12, s12) = q2 s11) (e13 : (x13, s13) = qmany qpat k12 s12) (e14 : (k14, s14) = q2 s13) (e15 : (x15, s15) = qmany qtx k14 s14) (e16 : (k16, s16) = q2 s15) (e17 : (x17, s17) = qmany qdir k16 s16) :
    Parsed b ⟨k1, k2, k3, k4, k5, (k6 : Int) == 1, ⟨k7, k8, k9, k10⟩, k11, x13, x15, x17⟩ s17 :=
  ⟨k1, k2, k3, k4, k6, k9, k10, k12, k14, k16, s1, s2, s3, s4, s5, s6, s7, s8, s9, s10, s11, s13, s15, s12, s14, s16, e1.symm, e2.symm, e3.symm, e4.symm, e5.symm, e6.symm, e7.symm, e8.symm, e9.symm, e10.symm, e11.symm, e12.symm, e13.symm, e14.symm, e15.symm, e16.symm, e17.symm, rfl, rfl, rfl, rfl, by rw [Bool.eq_iff_iff]; simp; omega, rfl, rfl⟩
theorem get_yes {b pu : List UInt8} {r : Rec} {s : Rs} {w wF : World} {v vp vt vx vd : Value} (hP : Parsed b r s) (hb : Below w.heap.size w wF) (hbd : s.2 = false) (hok : recOk r = true) (hpu : pu = (if recOk r = true then enc r else [])) (hR : RecOwn wF w.heap.size v vp vt vx vd r) (hpb : pu = b := by rfl) : GetPost b w (.returned (.tuple #[v, .bool true])) wF := by
  rw [if_pos hok] at hpu
  exact ⟨r, s, hP, hb, .inl ⟨(recOk_iff r).1 hok, hpu.symm.trans hpb, v, vp, vt, vx, vd, hR, rfl⟩⟩
theorem get_no {b : List UInt8} {r : Rec} {s : Rs} {w wF : World} (hP : Parsed b r s) (hb : Below w.heap.size w wF) (h : s.2 = true ∨ recOk r = false ∨ enc r ≠ b) : GetPost b w (.returned (.tuple #[zrec, .bool false])) wF := by
  refine ⟨r, s, hP, hb, .inr ⟨fun ⟨h1, h2⟩ => ?_, rfl⟩⟩
  rcases h with h | h | h
  · subst h2
    rw [(parsed_enc h1 hP).2] at h
    cases h
  · rw [(recOk_iff r).2 h1] at h; cases h
  · exact h h2
/-- The answer of Get, in letters. -/
def GetLet (b : List UInt8) (w : World) (e : Ending) (w' : World) : Prop :=
  ∃ (y : Rec) (a1 : Option Addr) (c1 : Nat) (a2 : Option Addr) (c2 : Nat) (a3 : Option Addr) (c3 : Nat) (a4 : Option Addr) (c4 : Nat) (pf : Bool),
    e = .returned (.tuple #[.agg #[.int .i64 y.kind, .int .i64 y.tx, .int .i64 y.prev, .int .i64 y.next, .string (mk y.key), .bool y.had, .string (mk y.old.key), .string (mk y.old.val), .int .i64 y.old.blob, .int .i64 y.old.size, .slice a1 y.pages.length c1, .slice a2 y.pats.length c2, .slice a3 y.txs.length c3, .slice a4 y.dirty.length c4], .bool pf]) ∧
    RecOwn w' w.heap.size (.agg #[.int .i64 y.kind, .int .i64 y.tx, .int .i64 y.prev, .int .i64 y.next, .string (mk y.key), .bool y.had, .string (mk y.old.key), .string (mk y.old.val), .int .i64 y.old.blob, .int .i64 y.old.size, .slice a1 y.pages.length c1, .slice a2 y.pats.length c2, .slice a3 y.txs.length c3, .slice a4 y.dirty.length c4]) (.slice a1 y.pages.length c1) (.slice a2 y.pats.length c2) (.slice a3 y.txs.length c3) (.slice a4 y.dirty.length c4) y ∧
    (pf = true → RecOk y ∧ enc y = b) ∧ (pf = false → y = Rec.zero ∧ ∀ z, RecOk z → enc z ≠ b) ∧ Below w.heap.size w w'
theorem recAt_form {w : World} {v vp vt vx vd : Value} {r : Rec} (h : RecAt w v vp vt vx vd r) : ∃ a1 c1 a2 c2 a3 c3 a4 c4, vp = .slice a1 r.pages.length c1 ∧ vt = .slice a2 r.pats.length c2 ∧ vx = .slice a3 r.txs.length c3 ∧ vd = .slice a4 r.dirty.length c4 ∧ v = .agg #[.int .i64 r.kind, .int .i64 r.tx, .int .i64 r.prev, .int .i64 r.next, .string (mk r.key), .bool r.had, .string (mk r.old.key), .string (mk r.old.val), .int .i64 r.old.blob, .int .i64 r.old.size, .slice a1 r.pages.length c1, .slice a2 r.pats.length c2, .slice a3 r.txs.length c3, .slice a4 r.dirty.length c4] := by
  obtain ⟨rfl, ⟨a1, c1, rfl, _⟩, ⟨a2, c2, rfl, _⟩, ⟨a3, c3, rfl, _⟩, ⟨a4, c4, rfl, _⟩⟩ := h
  exact ⟨a1, c1, a2, c2, a3, c3, a4, c4, rfl, rfl, rfl, rfl, rfl⟩
theorem getLet_of {b : List UInt8} {w w' : World} {e : Ending} (h : GetPost b w e w') : GetLet b w e w' := by
  obtain ⟨x, s, hp, hb, h⟩ := h
  rcases h with ⟨h1, h2, v, vp, vt, vx, vd, hR, rfl⟩ | ⟨h, rfl⟩
  · obtain ⟨a1, c1, a2, c2, a3, c3, a4, c4, rfl, rfl, rfl, rfl, rfl⟩ := recAt_form hR.at_
    exact ⟨x, a1, c1, a2, c2, a3, c3, a4, c4, true, rfl, hR, fun _ => ⟨h1, h2⟩, fun h => (by cases h), hb⟩
  · exact ⟨Rec.zero, none, 0, none, 0, none, 0, none, 0, false, rfl, own_zrec _ _, fun h => (by cases h), fun _ => ⟨rfl, fun z hz e => h (by subst e; obtain ⟨rfl, _⟩ := parsed_enc hz hp; exact ⟨hz, rfl⟩)⟩, hb⟩
end Go.Proofs.YtikdjbcfckjccaaDoor
