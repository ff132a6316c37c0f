/- A log of package wal in memory. No condition. -/
import Derived.Test.YtofejnhnnmnfpaaDoorRAll
import Derived.Test.YtofejnhnnmnfpaaDoorWDi
import Derived.Test.YtofejnhnnmnfpaaDoorBkM
import Derived.Test.YtofejnhnnmnfpaaDoorFBs
namespace Go.Proofs.YtofejnhnnmnfpaaDoor
set_option maxRecDepth 100000
open Go.RowKit

/-- A record and the values of its rows. -/
structure Rp where
  of ::
  r : Rc.Rec
  vp : Value
  vt : Value
  vx : Value
  vd : Value
def Rp.cells (p : Rp) : List Value := [.int .i64 p.r.kind, .int .i64 p.r.tx, .int .i64 p.r.prev, .int .i64 p.r.next, .string (mk p.r.key), .bool p.r.had, .string (mk p.r.old.key), .string (mk p.r.old.val), .int .i64 p.r.old.blob, .int .i64 p.r.old.size, p.vp, p.vt, p.vx, p.vd]
def Rp.val (p : Rp) : Value := .agg #[.int .i64 p.r.kind, .int .i64 p.r.tx, .int .i64 p.r.prev, .int .i64 p.r.next, .string (mk p.r.key), .bool p.r.had, .string (mk p.r.old.key), .string (mk p.r.old.val), .int .i64 p.r.old.blob, .int .i64 p.r.old.size, p.vp, p.vt, p.vx, p.vd]
def rpcells (l : List Rp) : List Value := l.flatMap Rp.cells
theorem rpcells_append (a b : List Rp) : rpcells (a ++ b) = rpcells a ++ rpcells b := by simp [rpcells]
theorem rpcells_one (p : Rp) : rpcells [p] = p.cells := by simp [rpcells]

/-- A record that can be read as long as no block of T is written. -/
def RecK (w : World) (T : Nat → Prop) (p : Rp) : Prop := ∀ (S : Nat → Prop) (w' : World), Chg S w w' → (∀ k, T k → ¬ S k) → Rc.RecAt w' p.val p.vp p.vt p.vx p.vd p.r
section
variable {w w' : World} {T T' S : Nat → Prop} {p : Rp}
theorem RecK.at_ (h : RecK w T p) : Rc.RecAt w p.val p.vp p.vt p.vx p.vd p.r := h (fun _ => False) w (Chg.refl _ _) (fun _ _ => id)
theorem RecK.chg (h : RecK w T p) (hc : Chg S w w') (hd : ∀ k, T k → ¬ S k) : RecK w' T p := fun S' w'' hc' hd' =>
  h (fun k => S k ∨ S' k) w'' ((hc.mono (T := fun k => S k ∨ S' k) (fun _ _ h => .inl h)).trans hc' (fun _ _ h => .inr h)) (fun k hk e => e.elim (hd k hk) (hd' k hk))
theorem RecK.wide (h : RecK w T p) (hT : ∀ k, T k → T' k) : RecK w T' p := fun S' w' hc hd => h S' w' hc (fun k hk => hd k (hT k hk))
theorem RecK.own {base : Nat} (h : Rc.RecOwn w base p.val p.vp p.vt p.vx p.vd p.r) : RecK w (fun k => base ≤ k ∧ k < w.heap.size) p := fun _ _ hc hd =>
  (h.chg hc (fun k hk hlt => Nat.lt_of_not_le (fun hb => hd k ⟨hb, hlt⟩ hk))).at_
end

/-- A LOG AS PLAIN DATA. -/
structure Lg where
  first : Nat
  secs : Nat
  epoch : Nat
  l : List Rc.Rec
  wait : List (List UInt8)
  end_ : Nat

/-- A LOG IN MEMORY, its rows, its records; all in blocks of T. -/
structure LX (w : World) (B G : Nat) (T : Nat → Prop) (L : Lg) (vl vw : Value) (ps : List Rp) : Prop where
  blk : w.heap[G]? = some (.cells #[.pointer (some ⟨B, 0, none⟩), .int .i64 (L.first : Int), .int .i64 (L.secs : Int), .int .i64 (L.epoch : Int), vl, vw, .int .i64 (L.end_ : Int)] 66 (0, 0))
  rl : w.ownsRow 0 37 14 vl L.l.length (rpcells ps)
  rw_ : w.ownsRow 0 9 1 vw L.wait.length (Fr.scells L.wait)
  recs : ps.map Rp.r = L.l
  inG : T G
  lt : ∀ k, T k → k < w.heap.size
  bl : ∀ k, vl.ownBlock = some k → T k ∧ k ≠ G
  bw : ∀ k, vw.ownBlock = some k → T k ∧ k ≠ G ∧ vl.ownBlock ≠ some k
  rk : ∀ p ∈ ps, RecK w (fun k => T k ∧ k ≠ G ∧ vl.ownBlock ≠ some k) p
def LAt (w : World) (B G : Nat) (T : Nat → Prop) (L : Lg) : Prop := ∃ vl vw ps, LX w B G T L vl vw ps
section
variable {w w2 w3 w' : World} {B G : Nat} {T T1 S : Nat → Prop} {L : Lg} {vl vw v' : Value} {ps : List Rp} {p : Rp}
theorem LX.kept (h : LX w B G T L vl vw ps) (hc : Chg S w w') (hd : ∀ k, T k → ¬ S k) : LX w' B G T L vl vw ps :=
  ⟨hc.heap h.blk (hd _ h.inG), hc.row h.rl (fun k hk => hd k (h.bl k hk).1), hc.row h.rw_ (fun k hk => hd k (h.bw k hk).1), h.recs, h.inG, fun k hk => Nat.lt_of_lt_of_le (h.lt k hk) hc.size, h.bl, h.bw, fun p hp => (h.rk p hp).chg hc (fun k hk => hd k hk.1)⟩
theorem LX.more (h : LX w B G T L vl vw ps) (hb : Below w.heap.size w w') : LX w' B G T L vl vw ps := h.kept (Chg.of_below (S := fun _ => False) hb) (fun _ _ => id)
theorem LX.len (h : LX w B G T L vl vw ps) : ps.length = L.l.length := by rw [← h.recs, List.length_map]
/-- One record more. -/
theorem LX.push (h : LX w2 B G T L vl vw ps) (hp : AppPost w2 0 37 14 vl L.l.length (rpcells ps) 1 p.cells v' w3) (hk : RecK w2 T1 p) (hT1 : ∀ k, T1 k → ¬ T k ∧ k < w2.heap.size) :
    LX (w3.setCell ⟨G, 4, none⟩ v') B G (fun k => T k ∨ T1 k ∨ (w2.heap.size ≤ k ∧ k < w3.heap.size)) { L with l := L.l ++ [p.r] } v' vw (ps ++ [p]) ∧ Chg T w2 (w3.setCell ⟨G, 4, none⟩ v') := by
  have hc := hp.chg
  have hG : w3.heap[G]? = _ := hc.heap h.blk (fun e => (h.bl G e).2 rfl)
  have hv' : ∀ k, v'.ownBlock = some k → (vl.ownBlock = some k ∨ (w2.heap.size ≤ k)) := fun k e => hp.blk e
  have hlt' : ∀ k, v'.ownBlock = some k → k < w3.heap.size := fun k e => (hp.1.lt k e).2
  have hGlt := h.lt _ h.inG
  have hvG : ∀ k, v'.ownBlock = some k → k ≠ G := fun k e => by
    rcases hv' k e with e | e
    · exact (h.bl k e).2
    · omega
  have hset : Chg (fun k => k = G) w3 (w3.setCell ⟨G, 4, none⟩ v') := (Chg.refl (fun k => k = G) w3).setCell (a := ⟨G, 4, none⟩) (fun _ => rfl) v'
  have hcT : Chg T w2 (w3.setCell ⟨G, 4, none⟩ v') := (hc.mono (fun k _ e => (h.bl k e).1)).trans hset (fun k _ e => e ▸ h.inG)
  have hz : (w3.setCell ⟨G, 4, none⟩ v').heap.size = w3.heap.size := by simp
  have hs := hc.size
  refine ⟨⟨by simpa using heap_setCell (i := 4) hG v', ?_, ?_, by rw [List.map_append, h.recs]; rfl, .inl h.inG, ?_, ?_, ?_, ?_⟩, hcT⟩
  · rw [rpcells_append, rpcells_one]
    simp only [List.length_append, List.length_cons, List.length_nil]
    exact hset.row hp.1 (fun k e => hvG k e)
  · exact hset.row (hc.row h.rw_ (fun k e => (h.bw k e).2.2)) (fun k e => (h.bw k e).2.1)
  · intro k hk
    rw [hz]
    rcases hk with e | e | e
    · have := h.lt k e; omega
    · have := (hT1 k e).2; omega
    · exact e.2
  · intro k e
    refine ⟨?_, hvG k e⟩
    rcases hv' k e with e' | e'
    · exact .inl (h.bl k e').1
    · exact .inr (.inr ⟨e', hlt' k e⟩)
  · intro k e
    obtain ⟨a, b, c⟩ := h.bw k e
    refine ⟨.inl a, b, fun e' => ?_⟩
    rcases hv' k e' with e' | e'
    · exact c e'
    · have := h.lt k a; omega
  · intro q hq
    rcases List.mem_append.1 hq with hq | hq
    · refine (((h.rk q hq).chg hc (fun k hk => hk.2.2)).chg hset (fun k hk => hk.2.1)).wide (fun k hk => ⟨.inl hk.1, hk.2.1, fun e => ?_⟩)
      rcases hv' k e with e' | e'
      · exact hk.2.2 e'
      · have := h.lt k hk.1; omega
    · rw [List.mem_singleton.1 hq]
      refine ((hk.chg hc (fun k hk e => (hT1 k hk).1 (h.bl k e).1)).chg hset (fun k hk e => (hT1 k hk).1 (e ▸ h.inG))).wide (fun k hk => ⟨.inr (.inl hk), fun e => (hT1 k hk).1 (e ▸ h.inG), fun e => ?_⟩)
      rcases hv' k e with e' | e'
      · exact (hT1 k hk).1 (h.bl k e').1
      · have := (hT1 k hk).2; omega
/-- What waits, anew. -/
theorem LX.setWait {wl : List (List UInt8)} (h : LX w B G T L vl vw ps) (ho : w.ownsRow 0 9 1 v' wl.length (Fr.scells wl)) (hv : ∀ k, v'.ownBlock = some k → ¬ T k) :
    LX (w.setCell ⟨G, 5, none⟩ v') B G (fun k => T k ∨ v'.ownBlock = some k) { L with wait := wl } vl v' ps ∧ Chg (fun k => k = G) w (w.setCell ⟨G, 5, none⟩ v') := by
  have hset : Chg (fun k => k = G) w (w.setCell ⟨G, 5, none⟩ v') := (Chg.refl (fun k => k = G) w).setCell (a := ⟨G, 5, none⟩) (fun _ => rfl) v'
  have hz : (w.setCell ⟨G, 5, none⟩ v').heap.size = w.heap.size := by simp
  refine ⟨⟨by simpa using heap_setCell (i := 5) h.blk v', hset.row h.rl (fun k e => (h.bl k e).2), hset.row ho (fun k e e' => hv k e (e' ▸ h.inG)), h.recs, .inl h.inG, ?_, fun k e => ⟨.inl (h.bl k e).1, (h.bl k e).2⟩, fun k e => ⟨.inr e, fun e' => hv k e (e' ▸ h.inG), fun e' => hv k e (h.bl k e').1⟩, ?_⟩, hset⟩
  · intro k hk
    rw [hz]
    rcases hk with e | e
    · exact h.lt k e
    · exact (ho.lt k e).2
  · intro q hq
    exact ((h.rk q hq).chg hset (fun k hk => hk.2.1)).wide (fun k hk => ⟨.inl hk.1, hk.2⟩)
theorem LX.setEnd (h : LX w B G T L vl vw ps) (n : Nat) : LX (w.setCell ⟨G, 6, none⟩ (.int .i64 (n : Int))) B G T { L with end_ := n } vl vw ps ∧ Chg (fun k => k = G) w (w.setCell ⟨G, 6, none⟩ (.int .i64 (n : Int))) := by
  have hset : Chg (fun k => k = G) w (w.setCell ⟨G, 6, none⟩ (.int .i64 (n : Int))) := (Chg.refl (fun k => k = G) w).setCell (a := ⟨G, 6, none⟩) (fun _ => rfl) _
  have hz : (w.setCell ⟨G, 6, none⟩ (.int .i64 (n : Int))).heap.size = w.heap.size := by simp
  exact ⟨⟨by simpa using heap_setCell (i := 6) h.blk (.int .i64 (n : Int)), hset.row h.rl (fun k e => (h.bl k e).2), hset.row h.rw_ (fun k e => (h.bw k e).2.1), h.recs, h.inG, fun k hk => by rw [hz]; exact h.lt k hk, h.bl, h.bw, fun q hq => (h.rk q hq).chg hset (fun k hk => hk.2.1)⟩, hset⟩
/-- A new log. -/
theorem LX.new (w : World) (B first secs epoch : Nat) : LX (w.alloc (.cells #[.pointer (some ⟨B, 0, none⟩), .int .i64 (first : Int), .int .i64 (secs : Int), .int .i64 (epoch : Int), .slice none 0 0, .slice none 0 0, .int .i64 0] 66)) B w.heap.size (fun k => k = w.heap.size) ⟨first, secs, epoch, [], [], 0⟩ (.slice none 0 0) (.slice none 0 0) [] :=
  ⟨heap_alloc_new w _, World.ownsRow_nil _ _ _ _, World.ownsRow_nil _ _ _ _, rfl, rfl, fun k e => by subst e; simp, fun k e => by simp [Value.ownBlock] at e, fun k e => by simp [Value.ownBlock] at e, fun p hp => by cases hp⟩
/-- The cells that a method reads. -/
theorem LX.cells (h : LX w B G T L vl vw ps) : ∃ al cl aw cw, vl = .slice al L.l.length cl ∧ vw = .slice aw L.wait.length cw ∧ w.cell? ⟨G, 0, none⟩ = some (.pointer (some ⟨B, 0, none⟩)) ∧ w.cell? ⟨G, 1, none⟩ = some (.int .i64 (L.first : Int)) ∧ w.cell? ⟨G, 2, none⟩ = some (.int .i64 (L.secs : Int)) ∧
    w.cell? ⟨G, 3, none⟩ = some (.int .i64 (L.epoch : Int)) ∧ w.cell? ⟨G, 4, none⟩ = some (.slice al L.l.length cl) ∧ w.cell? ⟨G, 5, none⟩ = some (.slice aw L.wait.length cw) ∧ w.cell? ⟨G, 6, none⟩ = some (.int .i64 (L.end_ : Int)) ∧ (∀ i, w.frozen? ⟨G, i, none⟩ = false) ∧ G < w.heap.size := by
  obtain ⟨al, m1, cl, e1, e2⟩ := own_form h.rl
  obtain ⟨aw, m2, cw, e3, e4⟩ := own_form h.rw_
  subst e2 e4
  have hb := h.blk
  rw [e1, e3] at hb
  exact ⟨al, cl, aw, cw, e1, e3, cell_of hb rfl, cell_of hb rfl, cell_of hb rfl, cell_of hb rfl, cell_of hb rfl, cell_of hb rfl, cell_of hb rfl, fun i => free_of hb, lt_of hb⟩
end

theorem DAt_lt {w : World} {B : Nat} {rs rp : Option Nat} {m : Nat} {d : Dq.Dk} (h : Dq.DAt w B rs rp m d) : ∀ k, Dq.DS B rs rp m k → k < w.heap.size := by
  obtain ⟨_, vs, vp, hrs, hrp, hb, hs, hp, hm⟩ := h
  intro k e
  rcases e with e | e | e | e
  · subst e; exact lt_of hb
  · exact (hs.lt k (by rw [hrs]; exact e)).2
  · exact (hp.lt k (by rw [hrp]; exact e)).2
  · subst e
    obtain ⟨es, cl, hmb⟩ := hm.block
    exact (Array.getElem?_eq_some_iff.1 hmb).1
/-- Blocks at H and above, but none of K. -/
def Hi (K : Nat → Prop) (H k : Nat) : Prop := H ≤ k ∧ ¬ K k
/-- What is ahead of H stays, and what is in K. -/
def Bel (K : Nat → Prop) (H : Nat) (w0 w : World) : Prop := Below H w0 w ∧ Chg (fun k => ¬ K k) w0 w ∧ ∀ k, K k → k < w0.heap.size
def No : Nat → Prop := fun _ => False
section
variable {K S : Nat → Prop} {H k : Nat} {w0 w w' : World}
theorem Bel.step (h : Bel K H w0 w) (h4 : H ≤ w.heap.size) (hc : Chg S w w') (hS : ∀ k, k < w.heap.size → S k → Hi K H k) : Bel K H w0 w' :=
  ⟨h.1.trans (hc.below (fun k hk e => (hS k hk e).1) h4), h.2.1.trans (hc.mono (T := fun k => ¬ K k) (fun k hk e => (hS k hk e).2)) (fun _ _ h => h), h.2.2⟩
theorem Bel.new (h : Bel K H w0 w) (h4 : H ≤ w.heap.size) (hk : w.heap.size ≤ k) : Hi K H k :=
  ⟨Nat.le_trans h4 hk, fun e => by have := h.2.2 k e; have := h.1.size; omega⟩
end
/-- A DISK AND A LOG ON IT, in blocks at H and above, none of K. -/
def Sys (K : Nat → Prop) (H : Nat) (w0 w : World) (B : Nat) (d : Dq.Dk) (G : Nat) (L : Lg) : Prop :=
  ∃ rs rp m T, Dq.DAt w B rs rp m d ∧ LAt w B G T L ∧ (∀ k, Dq.DS B rs rp m k → Hi K H k ∧ ¬ T k) ∧ (∀ k, T k → Hi K H k) ∧ Bel K H w0 w ∧ H ≤ w.heap.size
section
variable {K K' : Nat → Prop} {H B G G' : Nat} {w0 w w' : World} {d d' : Dq.Dk} {L L' : Lg}
theorem Sys.was (h : Sys K H w0 w B d G L) : Below H w0 w ∧ H ≤ w.heap.size := by obtain ⟨_, _, _, _, _, _, _, _, h1, h2⟩ := h; exact ⟨h1.1, h2⟩
/-- What is in K stays. -/
theorem Sys.stay (h : Sys K H w0 w B d G L) : Chg (fun k => ¬ K k) w0 w := by obtain ⟨_, _, _, _, _, _, _, _, h1, _⟩ := h; exact h1.2.1
theorem Sys.more (h : Sys K H w0 w B d G L) (hb : Below w.heap.size w w') : Sys K H w0 w' B d G L := by
  obtain ⟨rs, rp, m, T, hd, ⟨vl, vw, ps, hl⟩, h1, h2, h3, h4⟩ := h
  have hc : Chg (fun _ => False) w w' := Chg.of_below hb
  exact ⟨rs, rp, m, T, hd.keep hc (fun _ _ h => h), ⟨vl, vw, ps, hl.more hb⟩, h1, h2, h3.step h4 hc (fun _ _ h => h.elim), Nat.le_trans h4 hb.size⟩
/-- From here on; other blocks beside it. -/
theorem Sys.rebase (h : Sys K H w0 w B d G L) (hc : Chg K w w') (hn : ∀ k, K' k → (K k ∨ w.heap.size ≤ k) ∧ k < w'.heap.size) : Sys K' H w' w' B d G L := by
  obtain ⟨rs, rp, m, T, hd, ⟨vl, vw, ps, hl⟩, h1, h2, h3, h4⟩ := h
  refine ⟨rs, rp, m, T, hd.keep hc (fun k hk e => (h1 k hk).1.2 e), ⟨vl, vw, ps, hl.kept hc (fun k hk e => (h2 k hk).2 e)⟩, fun k hk => ⟨⟨(h1 k hk).1.1, fun e => ?_⟩, (h1 k hk).2⟩, fun k hk => ⟨(h2 k hk).1, fun e => ?_⟩, ⟨Below.refl _ _, Chg.refl _ _, fun k e => (hn k e).2⟩, Nat.le_trans h4 hc.size⟩
  · rcases (hn k e).1 with e' | e'
    · exact (h1 k hk).1.2 e'
    · have := DAt_lt hd k hk; omega
  · rcases (hn k e).1 with e' | e'
    · exact (h2 k hk).2 e'
    · have := hl.lt k hk; omega
theorem Sys.din (h : Sys K H w0 w B d G L) : Dq.DIn H w0 w B d := by
  obtain ⟨rs, rp, m, T, hd, _, h1, _, h3, h4⟩ := h
  exact ⟨rs, rp, m, hd, fun k hk => (h1 k hk).1.1, h3.1, h4⟩
theorem Sys.make {T : Nat → Prop} (h : Dq.DIn H w0 w B d) (hl : LAt w' B G T L) (hT : ∀ k, T k → w.heap.size ≤ k) (hb : Below w.heap.size w w') : Sys No H w0 w' B d G L := by
  obtain ⟨rs, rp, m, hd, h1, h3, h4⟩ := h
  have hc : Chg (fun _ => False) w w' := Chg.of_below hb
  have h3' := h3.trans (hb.mono h4)
  exact ⟨rs, rp, m, T, hd.keep hc (fun _ _ h => h), hl, fun k hk => ⟨⟨h1 k hk, fun e => e.elim⟩, fun e => by have := hT k e; have := DAt_lt hd k hk; omega⟩, fun k hk => ⟨Nat.le_trans h4 (hT k hk), fun e => e.elim⟩, ⟨h3', ⟨h3'.os, h3'.tape, h3'.output, h3'.size, fun k _ hn => absurd (fun e => e.elim) hn⟩, fun k e => e.elim⟩, Nat.le_trans h4 hb.size⟩
/-- Another log on the same disk. -/
theorem Sys.anew {T : Nat → Prop} (h : Sys K H w0 w B d G' L') (hl : LAt w' B G T L) (hT : ∀ k, T k → w.heap.size ≤ k) (hb : Below w.heap.size w w') : Sys K H w0 w' B d G L := by
  obtain ⟨rs, rp, m, T0, hd, _, h1, h2, h3, h4⟩ := h
  have hc : Chg (fun _ => False) w w' := Chg.of_below hb
  exact ⟨rs, rp, m, T, hd.keep hc (fun _ _ h => h), hl, fun k hk => ⟨(h1 k hk).1, fun e => by have := hT k e; have := DAt_lt hd k hk; omega⟩, fun k hk => h3.new h4 (hT k hk), h3.step h4 hc (fun _ _ h => h.elim), Nat.le_trans h4 hb.size⟩
/-- A step of the disk. -/
theorem sys_disk {rs rp : Option Nat} {m : Nat} {T : Nat → Prop} (hl : LAt w B G T L) (h1 : ∀ k, Dq.DS B rs rp m k → Hi K H k ∧ ¬ T k) (h2 : ∀ k, T k → Hi K H k) (h3 : Bel K H w0 w) (h4 : H ≤ w.heap.size) (hp : Dq.DPost w w' B rs rp m d') : Sys K H w0 w' B d' G L := by
  obtain ⟨rp', ha, hc, hr⟩ := hp
  obtain ⟨vl, vw, ps, hl⟩ := hl
  refine ⟨rs, rp', m, T, ha, ⟨vl, vw, ps, hl.kept hc (fun k hk e => (h1 k e).2 hk)⟩, ?_, h2, h3.step h4 hc (fun k _ e => (h1 k e).1), Nat.le_trans h4 hc.size⟩
  intro k e
  rcases e with e | e | e | e
  · exact h1 k (.inl e)
  · exact h1 k (.inr (.inl e))
  · rcases hr with hr | hr
    · exact h1 k (.inr (.inr (.inl (hr ▸ e))))
    · have := hr k e
      exact ⟨h3.new h4 this, fun e' => by have := hl.lt k e'; omega⟩
  · exact h1 k (.inr (.inr (.inr e)))
/-- A step of the log. -/
theorem sys_log {rs rp : Option Nat} {m : Nat} {T T' : Nat → Prop} (hd : Dq.DAt w B rs rp m d) (h1 : ∀ k, Dq.DS B rs rp m k → Hi K H k ∧ ¬ T k) (h2 : ∀ k, T k → Hi K H k) (h3 : Bel K H w0 w) (h4 : H ≤ w.heap.size) (hc : Chg T w w') (hl : LAt w' B G T' L') (hT : ∀ k, T' k → T k ∨ w.heap.size ≤ k) : Sys K H w0 w' B d G L' := by
  refine ⟨rs, rp, m, T', hd.keep hc (fun k hk => (h1 k hk).2), hl, fun k hk => ⟨(h1 k hk).1, fun e => ?_⟩, fun k hk => ?_, h3.step h4 hc (fun k _ e => h2 k e), Nat.le_trans h4 hc.size⟩
  · rcases hT k e with e | e
    · exact (h1 k hk).2 e
    · have := DAt_lt hd k hk; omega
  · rcases hT k hk with e | e
    · exact h2 k e
    · exact h3.new h4 e
end
end Go.Proofs.YtofejnhnnmnfpaaDoor
