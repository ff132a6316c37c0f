/- Rows of lists, marks on them, rows that can be read: memory for a book of lists. No condition. -/
import Derived.Test.YtofejnhnnmnfpaaDoorBase
import Derived.Maps.AppendAt
import Derived.Deep.Upon
import Derived.Laws.OwnMore
namespace Go.Proofs.YtofejnhnnmnfpaaDoor
set_option maxRecDepth 100000
open Go.RowKit

/-- A row that can be read. -/
def RdAt (w : World) (v : Value) (n : Nat) (xs : List Value) : Prop :=
  ∃ a c, v = .slice a n c ∧ ∀ j u, xs[j]? = some u → ∃ b o, a = some ⟨b, o, none⟩ ∧ w.cell? ⟨b, o + j, none⟩ = some u
theorem RdAt.kept {S : Nat → Prop} {w w' : World} {v : Value} {n : Nat} {xs : List Value} (h : RdAt w v n xs) (hc : Chg S w w') (hn : ∀ k, v.ownBlock = some k → ¬ S k) : RdAt w' v n xs := by
  obtain ⟨a, c, rfl, h⟩ := h
  refine ⟨a, c, rfl, fun j u hj => ?_⟩
  obtain ⟨b, o, rfl, h1⟩ := h j u hj
  exact ⟨b, o, rfl, (World.cell?_of_block (w := w) (hc.block _ (World.block_lt_of_cell? w _ h1) (hn b rfl))).trans h1⟩
theorem RdAt.more {w w' : World} {v : Value} {n : Nat} {xs : List Value} (h : RdAt w v n xs) (hb : Below w.heap.size w w') : RdAt w' v n xs := h.kept (Chg.of_below (S := fun _ => False) hb) (fun _ _ => id)
theorem RdAt.own {w : World} {base : Nat} {e : TypeId} {size : Nat} {v : Value} {n : Nat} {xs : List Value} (h : w.ownsRow base e size v n xs) : RdAt w v n xs := by
  rcases h.2 with ⟨rfl, rfl⟩ | ⟨g, cap, cur, rfl, _⟩
  · exact ⟨none, 0, rfl, fun j u hj => by have := h.1; rw [Nat.zero_mul] at this; rw [List.eq_nil_of_length_eq_zero this] at hj; simp at hj⟩
  · refine ⟨_, _, rfl, fun j u hj => ⟨g, 0, rfl, ?_⟩⟩
    have := h.cells (g := g) (by simp [Value.ownBlock]) j u hj
    rwa [Addr.add_lit] at this
/-- Its cells, as an append asks for them. -/
theorem RdAt.news {w : World} {v : Value} {n : Nat} {xs : List Value} (h : RdAt w v n xs) (hp : xs ≠ []) : ∃ ad c, v = .slice (some ad) n c ∧ ∀ j u, xs[j]? = some u → w.cell? (ad.add j) = some u := by
  obtain ⟨a, c, rfl, h⟩ := h
  cases xs with
  | nil => exact absurd rfl hp
  | cons x t =>
    obtain ⟨b, o, rfl, _⟩ := h 0 x rfl
    refine ⟨_, c, rfl, fun j u hj => ?_⟩
    obtain ⟨b', o', e, h1⟩ := h j u hj
    cases e
    rw [Addr.add_lit]
    exact h1
theorem RdAt.get {w : World} {a : Option Addr} {n c : Nat} {xs : List Value} (h : RdAt w (.slice a n c) n xs) {j : Nat} {u : Value} (hj : xs[j]? = some u) : ∃ b o, a = some ⟨b, o, none⟩ ∧ w.cell? ⟨b, o + j, none⟩ = some u := by
  obtain ⟨a', c', e, h⟩ := h
  cases e
  exact h j u hj
theorem ownBlock_lt {w : World} {base : Nat} {e : TypeId} {size : Nat} {v : Value} {n : Nat} {xs : List Value} (h : w.ownsRow base e size v n xs) {k : Nat} (hk : v.ownBlock = some k) : base ≤ k ∧ k < w.heap.size := h.lt k hk

/-- What an append onto an own row leaves. -/
def AppPost (w : World) (base : Nat) (e : TypeId) (size : Nat) (v : Value) (n : Nat) (xs : List Value) (m : Nat) (news : List Value) (v' : Value) (w' : World) : Prop :=
  w'.ownsRow base e size v' (n + m) (xs ++ news) ∧ w.grownBy w' v.ownBlock ∧ (v'.ownBlock = v.ownBlock ∨ (w.grownBy w' none ∧ v'.ownBlock = some w.heap.size))
theorem run_append_rd {P : Program} (w : World) (base : Nat) (t ty e : TypeId) (i : TypeInfo) (z : Value) (size bytes : Nat) (ht : P.underlying t = some (.slice e)) (hi : P.info? e = some i) (hz : i.zero = some z)
    (hsize : i.size = size) (hby : i.bytes = bytes) (hzs : z.cells.size = size) (hsz : 0 < size)
    (v : Value) (n : Nat) (xs : List Value) (hown : w.ownsRow base e size v n xs)
    (vx : Value) (m : Nat) (news : List Value) (hl : news.length = m * size) (hx : RdAt w vx m news) (h1 : ∀ u ∈ news, u.oneCell' = true)
    (h63 : n + m ≤ maxLen) (hbytes : (n + m) * bytes ≤ 140737488355328) (hbase : base ≤ w.heap.size) :
    ∃ v' w', (Builtin.append_ #[t, t] ty #[v, vx]).run P w = .ok v' w' ∧ AppPost w base e size v n xs m news v' w' := by
  subst hsize
  subst hby
  have hsmall : n + m ≤ 9223372036854775807 := by simp only [maxLen] at h63; omega
  have hlen : (xs ++ news).length = (n + m) * i.size := by rw [List.length_append, hown.1, hl, Nat.add_mul]
  have refl0 : ∀ r, w.grownBy w r := fun r => ⟨rfl, rfl, rfl, Nat.le_refl _, fun _ _ _ => rfl⟩
  rcases Nat.eq_zero_or_pos m with h0 | hp
  · subst h0
    have hn : news = [] := List.eq_nil_of_length_eq_zero (by simpa using hl)
    subst hn
    obtain ⟨a, c, rfl, _⟩ := hx
    have hsrc : Src P i.size t (.slice a 0 c) 0 [] w := by
      cases a with
      | none => exact Src.ofNil w ht c
      | some ad => exact Src.ofSlice w ht ad 0 c [] (by simp) (fun j u h => by simp at h) (fun u h => by cases h)
    have hfin : AppPost w base e i.size v n xs 0 [] v w := ⟨by simpa using hown, refl0 _, .inl rfl⟩
    rcases hown.2 with ⟨rfl, rfl⟩ | ⟨g, cap, cur, rfl, _, _, hc, _⟩
    · exact ⟨_, w, run_append_nothing w t t ty e i ht hi none 0 0 (Nat.le_refl _) _ hsrc, hfin⟩
    · exact ⟨_, w, run_append_nothing w t t ty e i ht hi (some ⟨g, 0, none⟩) n cap hc _ hsrc, hfin⟩
  · obtain ⟨a, c, rfl, hnews⟩ := hx.news (fun e => by
      rw [e] at hl
      have h1 := Nat.mul_pos hp hsz
      rw [← hl] at h1
      exact Nat.lt_irrefl _ h1)
    have grown : ∀ (old : Nat), old < n + m → ∀ (row : Option Nat),
        (w.drew.alloc (.cells (xs.toArray ++ news.toArray ++ Builtin.zeroCells z.cells (grownCap w (n + m) old e - (n + m))) e)).ownsRow base e i.size
          (.slice (some ⟨w.heap.size, 0, none⟩) (n + m) (grownCap w (n + m) old e)) (n + m) (xs ++ news) ∧
        w.grownBy (w.drew.alloc (.cells (xs.toArray ++ news.toArray ++ Builtin.zeroCells z.cells (grownCap w (n + m) old e - (n + m))) e)) row := by
      intro old ho row
      have hge := grownCap_ge w (n + m) old e
      have hcm : grownCap w (n + m) old e ≤ maxLen := grownCap_le_maxLen w (n + m) old e h63
      refine ⟨⟨hlen, .inr ⟨w.heap.size, _, _, rfl, hbase, heap_alloc_new w.drew _, hge, hcm, ?_, ?_⟩⟩, ⟨rfl, rfl, rfl, by simp, fun k hk _ => Below.heap_alloc w.drew _ k hk⟩⟩
      · simp only [Array.size_append, List.size_toArray, size_zeroCells, hzs, hown.1, hl, ← Nat.add_mul]
        congr 1
        omega
      · simp only [Array.toList_append, List.append_assoc]
        rw [← List.append_assoc, ← hlen]
        exact List.take_left
    rcases hown.2 with ⟨rfl, rfl⟩ | ⟨g, cap, cur, rfl, hbg, hg, hnc, hcm, hcs, htake⟩
    · have hx : xs = [] := List.eq_nil_of_length_eq_zero (by simpa using hown.1)
      subst hx
      have hr := run_append_nil (P := P) w t ty e i z ht hi hz a m c news hl hnews (by omega) (by omega) (by have hb := hbytes; simp only [Nat.zero_add] at hb; omega)
      have hgr := grown 0 (by omega)
      simp only [Nat.zero_add, List.nil_append, Array.empty_append] at hgr ⊢
      exact ⟨_, _, hr, by simpa using (hgr none).1, (hgr _).2, .inr ⟨(hgr _).2, rfl⟩⟩
    · by_cases hroom : n + m ≤ cap
      · have hfit : n * i.size + news.length ≤ cur.size := by rw [hl, hcs, ← Nat.add_mul]; exact Nat.mul_le_mul_right _ hroom
        have hr := run_append_room (P := P) w t ty e i ht hi g n cap cur hg a m c news hl hnews h1 hroom hfit
        refine ⟨_, _, hr, ⟨hlen, .inr ⟨g, cap, _, rfl, hbg, setRow_heap w g cur _ e _ hg, hroom, hcm, ?_, ?_⟩⟩, ⟨rfl, rfl, rfl, by simp, fun k _ hk => setRow_other w g k _ (fun e => hk (by simp [Value.ownBlock, e]))⟩, Or.inl rfl⟩
        · simp only [List.size_toArray, List.length_append, List.length_take, List.length_drop, Array.length_toList]
          omega
        · rw [htake, ← hlen]
          exact List.take_left
      · have holds : ∀ j u, xs[j]? = some u → w.cell? ((⟨g, 0, none⟩ : Addr).add j) = some u := hown.cells (g := g) rfl
        have hr := run_append_grow (P := P) w t ty e i z ht hi hz ⟨g, 0, none⟩ n cap xs hown.1 holds a m c news hl hnews (by omega) (by omega) (growslice_fits (by omega) hbytes)
        have hgr := grown cap (by omega)
        exact ⟨_, _, hr, (hgr none).1, (hgr _).2, .inr ⟨(hgr _).2, rfl⟩⟩
section
variable {P : Program} {ops : Array Oper} {o : Oper} {a : Act} {w : World} {Q : Exit → Act → World → Prop} {rest : List Oper}
theorem step_append_rd {K : Act → World → Prop} {E : Prop} (hg : o.guard = none) (s x : Operand) (t : TypeId) (hop : o.op = Op.call { callee := Callee.builtin Builtin.append, args := #[s, x], argTypes := #[t, t] })
    (base : Nat) (e : TypeId) (i : TypeInfo) (z : Value) (size bytes : Nat) (ht : P.underlying t = some (.slice e)) (hi : P.info? e = some i) (hz : i.zero = some z)
    (hsize : i.size = size) (hby : i.bytes = bytes) (hzs : z.cells.size = size) (hsz : 0 < size)
    (v : Value) (n : Nat) (xs : List Value) (hs : a.eval s = v) (hown : w.ownsRow base e size v n xs)
    (vx : Value) (m : Nat) (news : List Value) (hx : a.eval x = vx) (hl : news.length = m * size) (hrd : RdAt w vx m news) (h1 : ∀ u ∈ news, u.oneCell' = true)
    (h63 : n + m ≤ maxLen) (hbytes : (n + m) * bytes ≤ 140737488355328) (hbase : base ≤ w.heap.size)
    (hK : ∀ v' w', AppPost w base e size v n xs m news v' w' → K (a.put o.dst v') w') :
    if Region.wanted o (yielded ops a.tmps) = true then Oper.wp P o a w K Q else E := by
  have hw : Region.wanted o (yielded ops a.tmps) = true := by simp [Region.wanted, hg]
  rw [if_pos hw]
  obtain ⟨v', w', hrun, h⟩ := run_append_rd (P := P) w base t o.type e i z size bytes ht hi hz hsize hby hzs hsz v n xs hown vx m news hl hrd h1 h63 hbytes hbase
  unfold Oper.wp
  simp [execOp, hop, resolve, invoke, builtin, hs, hx, hrun, Result.andThen]
  exact hK v' w' h
theorem wpList_append_rd (hg : o.guard = none) (s x : Operand) (t : TypeId) (hop : o.op = Op.call { callee := Callee.builtin Builtin.append, args := #[s, x], argTypes := #[t, t] })
    (base : Nat) (e : TypeId) (i : TypeInfo) (z : Value) (size bytes : Nat) (ht : P.underlying t = some (.slice e)) (hi : P.info? e = some i) (hz : i.zero = some z)
    (hsize : i.size = size) (hby : i.bytes = bytes) (hzs : z.cells.size = size) (hsz : 0 < size)
    (v : Value) (n : Nat) (xs : List Value) (hs : a.eval s = v) (hown : w.ownsRow base e size v n xs)
    (vx : Value) (m : Nat) (news : List Value) (hx : a.eval x = vx) (hl : news.length = m * size) (hrd : RdAt w vx m news) (h1 : ∀ u ∈ news, u.oneCell' = true)
    (h63 : n + m ≤ maxLen) (hbytes : (n + m) * bytes ≤ 140737488355328) (hbase : base ≤ w.heap.size)
    (hK : ∀ v' w', AppPost w base e size v n xs m news v' w' → wpList P ops Q rest (a.put o.dst v') w') :
    wpList P ops Q (o :: rest) a w := by
  refine wpList_plain hg fun K hK' => ?_
  obtain ⟨v', w', hrun, h⟩ := run_append_rd (P := P) w base t o.type e i z size bytes ht hi hz hsize hby hzs hsz v n xs hown vx m news hl hrd h1 h63 hbytes hbase
  unfold Oper.wp execOp
  simp only [hop, resolve, invoke, builtin, Sem.run_bind, Sem.run_pure, Result.andThen_ok, List.map_toArray, List.map_cons, List.map_nil, hs, hx, hrun]
  exact hK' _ _ (hK v' w' h)
end

section
variable {w w' : World} {base : Nat} {e : TypeId} {size : Nat} {v : Value} {n : Nat} {xs : List Value} {m : Nat} {news : List Value} {v' : Value}
theorem AppPost.chg (h : AppPost w base e size v n xs m news v' w') : Chg (fun k => v.ownBlock = some k) w w' := (Chg.refl _ _).grown h.2.1 (fun _ _ e => e)
theorem AppPost.grows (h : AppPost w base e size v n xs m news v' w') : w.heap.size ≤ w'.heap.size := h.2.1.size
theorem AppPost.blk (h : AppPost w base e size v n xs m news v' w') {k : Nat} (hk : v'.ownBlock = some k) : v.ownBlock = some k ∨ w.heap.size ≤ k := by
  rcases h.2.2 with e | ⟨_, e⟩
  · exact .inl (e ▸ hk)
  · rw [e] at hk; cases hk; exact .inr (Nat.le_refl _)
/-- The old value can still be read. -/
theorem AppPost.old (h : AppPost w base e size v n xs m news v' w') (hown : w.ownsRow base e size v n xs) : RdAt w' v n xs := by
  rcases h.2.2 with e | ⟨hg, _⟩
  · rcases hown.2 with ⟨rfl, rfl⟩ | ⟨g, cap, cur, rfl, _⟩
    · exact ⟨none, 0, rfl, fun j u hj => by have := hown.1; rw [Nat.zero_mul] at this; rw [List.eq_nil_of_length_eq_zero this] at hj; simp at hj⟩
    · refine ⟨_, _, rfl, fun j u hj => ⟨g, 0, rfl, ?_⟩⟩
      have hjl := (List.getElem?_eq_some_iff.1 hj).1
      have := h.1.cells (g := g) (by rw [e]; simp [Value.ownBlock]) j u (by rw [List.getElem?_append_left hjl]; exact hj)
      rwa [Addr.add_lit] at this
  · exact (RdAt.own hown).kept (S := fun _ => False) ((Chg.refl _ _).grown hg (fun _ _ e => by cases e)) (fun _ _ => id)
/-- A first part of it can still be read, wherever it lies. -/
theorem AppPost.keep {base0 : Nat} {v0 : Value} {n0 : Nat} {xs0 ys : List Value} {wa : World} (h0 : wa.ownsRow base0 e size v0 n0 xs0) (hr : RdAt w v0 n0 xs0) (hx : xs = xs0 ++ ys) (hown : w.ownsRow base e size v n xs) (h : AppPost w base e size v n xs m news v' w') : RdAt w' v0 n0 xs0 := by
  subst hx
  by_cases hb : ∃ k, v0.ownBlock = some k ∧ v.ownBlock = some k
  · obtain ⟨k, hk0, hk⟩ := hb
    have ho := h.old hown
    rcases h0.2 with ⟨rfl, rfl⟩ | ⟨g, cap, cur, rfl, _⟩
    · simp [Value.ownBlock] at hk0
    · obtain rfl : g = k := by simpa [Value.ownBlock] using hk0
      refine ⟨_, _, rfl, fun j u hj => ⟨g, 0, rfl, ?_⟩⟩
      have hjl := (List.getElem?_eq_some_iff.1 hj).1
      rcases hown.2 with ⟨rfl, rfl⟩ | ⟨g', cap', cur', rfl, _⟩
      · simp [Value.ownBlock] at hk
      · obtain rfl : g' = g := by simpa [Value.ownBlock] using hk
        obtain ⟨b, o, e1, e2⟩ := ho.get (j := j) (u := u) (by rw [List.getElem?_append_left hjl]; exact hj)
        cases e1
        exact e2
  · exact hr.kept h.chg (fun k hk he => hb ⟨k, hk, he⟩)
end

/-- A list that grows: what was appended so far; the list itself can still be read. -/
def GrowI (wS w : World) (base : Nat) (e : TypeId) (sz : Nat) (v0 : Value) (n0 : Nat) (xs0 : List Value) (vl : Value) (n : Nat) (xs : List Value) : Prop :=
  w.ownsRow base e sz vl n xs ∧ RdAt w v0 n0 xs0 ∧ (∃ ys, xs = xs0 ++ ys) ∧ (∀ q, vl.ownBlock = some q → v0.ownBlock = some q ∨ wS.heap.size ≤ q) ∧ Chg (fun q => v0.ownBlock = some q) wS w
theorem GrowI.start {wS : World} {base : Nat} {e : TypeId} {sz : Nat} {v0 : Value} {n0 : Nat} {xs0 : List Value} (h : wS.ownsRow base e sz v0 n0 xs0) : GrowI wS wS base e sz v0 n0 xs0 v0 n0 xs0 :=
  ⟨h, RdAt.own h, ⟨[], by simp⟩, fun _ h => .inl h, Chg.refl _ _⟩
theorem GrowI.more {wS w w1 : World} {base : Nat} {e : TypeId} {sz : Nat} {v0 : Value} {n0 : Nat} {xs0 : List Value} {vl : Value} {n : Nat} {xs : List Value} (h : GrowI wS w base e sz v0 n0 xs0 vl n xs) (hb : Below w.heap.size w w1) : GrowI wS w1 base e sz v0 n0 xs0 vl n xs :=
  ⟨(Chg.of_below (S := fun _ => False) hb).row h.1 (fun _ _ => id), h.2.1.more hb, h.2.2.1, h.2.2.2.1, h.2.2.2.2.trans (Chg.of_below (S := fun _ => False) hb) (fun _ _ h => h.elim)⟩
theorem GrowI.step {wS w w2 wa : World} {base base0 : Nat} {e : TypeId} {sz : Nat} {v0 : Value} {n0 : Nat} {xs0 : List Value} {vl v' : Value} {n m : Nat} {xs news : List Value} (h : GrowI wS w base e sz v0 n0 xs0 vl n xs) (h0 : wa.ownsRow base0 e sz v0 n0 xs0) (hp : AppPost w base e sz vl n xs m news v' w2) : GrowI wS w2 base e sz v0 n0 xs0 v' (n + m) (xs ++ news) := by
  obtain ⟨h1, h2, ⟨ys, h3⟩, h4, h5⟩ := h
  refine ⟨hp.1, hp.keep h0 h2 h3 h1, ⟨ys ++ news, by rw [h3, List.append_assoc]⟩, fun q hq => ?_, h5.trans hp.chg (fun k hk he => ?_)⟩
  · rcases hp.blk hq with e | e
    · exact h4 q e
    · exact .inr (Nat.le_trans h5.size e)
  · rcases h4 k he with e | e
    · exact e
    · omega

/-- A list of lists: the value, how many elements. -/
structure Lst where
  v : Value
  n : Nat
  xs : List Value
def blks (L : List Lst) : Nat → Prop := fun k => ∃ j, ∃ h : j < L.length, L[j].v.ownBlock = some k
def Dis (L : List Lst) : Prop := ∀ i j (hi : i < L.length) (hj : j < L.length) k, i ≠ j → L[i].v.ownBlock = some k → L[j].v.ownBlock ≠ some k
/-- Each is a row of its own; what is in the j-th is f j. -/
def RowsF (base : Nat) (ty : TypeId) (sz : Nat) (w : World) (L : List Lst) (f : Nat → List Value) : Prop := ∀ j (h : j < L.length), w.ownsRow base ty sz L[j].v L[j].n (f j)
theorem RowsF.congr {base : Nat} {ty : TypeId} {sz : Nat} {w : World} {L : List Lst} {f g : Nat → List Value} (h : RowsF base ty sz w L f) (hf : ∀ j, j < L.length → f j = g j) : RowsF base ty sz w L g := fun j hj => by rw [← hf j hj]; exact h j hj
theorem RowsF.kept {S : Nat → Prop} {base : Nat} {ty : TypeId} {sz : Nat} {w w' : World} {L : List Lst} {f : Nat → List Value} (h : RowsF base ty sz w L f) (hc : Chg S w w') (hS : ∀ k, blks L k → ¬ S k) : RowsF base ty sz w' L f := fun j hj => hc.row (h j hj) (fun k hk => hS k ⟨j, hj, hk⟩)
theorem RowsF.more {base : Nat} {ty : TypeId} {sz : Nat} {w w' : World} {L : List Lst} {f : Nat → List Value} (h : RowsF base ty sz w L f) (hb : Below w.heap.size w w') : RowsF base ty sz w' L f := h.kept (Chg.of_below (S := fun _ => False) hb) (fun _ _ => id)
theorem RowsF.set {base : Nat} {ty : TypeId} {sz : Nat} {w w' : World} {L : List Lst} {f : Nat → List Value} (h : RowsF base ty sz w L f) (hD : Dis L) {i : Nat} (hi : i < L.length) {ys : List Value} (hr : w'.ownsRow base ty sz L[i].v L[i].n ys) (hc : Chg (fun k => L[i].v.ownBlock = some k) w w') : RowsF base ty sz w' L (fun j => if j = i then ys else f j) := fun j hj => by
  by_cases e : j = i
  · subst e
    simpa using hr
  · simp only [if_neg e]
    exact hc.row (h j hj) (fun k hk hk' => hD j i hj hi k e hk hk')

/-- How many are in the j-th. -/
def nOf (L : List Lst) (j : Nat) : Nat := (L[j]?.map (·.n)).getD 0
theorem nOf_at {L : List Lst} {j : Nat} (h : j < L.length) : nOf L j = L[j].n := by simp [nOf, h]

/-- Marks: the k-th of the i-th list is m i k. -/
def mks (m : Nat → Nat → List Value) (i f n : Nat) : List Value := (List.range n).flatMap fun k => m i (f + k)
theorem mks_zero (m : Nat → Nat → List Value) (i f : Nat) : mks m i f 0 = [] := rfl
theorem mks_succ (m : Nat → Nat → List Value) (i f n : Nat) : mks m i f (n + 1) = mks m i f n ++ m i (f + n) := by simp [mks, List.range_succ]
theorem mks_add (m : Nat → Nat → List Value) (i f a b : Nat) : mks m i f (a + b) = mks m i f a ++ mks m i (f + a) b := by
  induction b with
  | zero => simp [mks_zero]
  | succ b ih => rw [← Nat.add_assoc, mks_succ, ih, mks_succ, List.append_assoc, Nat.add_assoc]
theorem mks_one (m : Nat → Nat → List Value) (i f : Nat) : mks m i f 1 = m i f := by rw [mks_succ, mks_zero]; rfl
theorem mks_len {m : Nat → Nat → List Value} {sz : Nat} (hm : ∀ i k, (m i k).length = sz) (i f n : Nat) : (mks m i f n).length = n * sz := by
  induction n with
  | zero => simp [mks_zero]
  | succ n ih => rw [mks_succ, List.length_append, ih, hm, Nat.add_mul, Nat.one_mul]
theorem mks_get {m : Nat → Nat → List Value} {sz : Nat} (hm : ∀ i k, (m i k).length = sz) (i f n j c : Nat) (hj : j < n) (hc : c < sz) : (mks m i f n)[j * sz + c]? = (m i (f + j))[c]? := by
  obtain ⟨r, rfl⟩ : ∃ r, n = j + (1 + r) := ⟨n - j - 1, by omega⟩
  rw [mks_add, List.getElem?_append_right (by rw [mks_len hm]; omega), mks_len hm, mks_add, mks_one, List.getElem?_append_left (by rw [hm]; omega)]
  congr 1
  omega
theorem mks_all {m : Nat → Nat → List Value} {q : Value → Prop} (hm : ∀ i k, ∀ u ∈ m i k, q u) (i f n : Nat) : ∀ u ∈ mks m i f n, q u := by
  intro u hu
  obtain ⟨k, _, h⟩ := List.mem_flatMap.1 hu
  exact hm _ _ u h

/-- Cells that are written over, one behind the other. -/
def setAll (l : List Value) (p : Nat) : List Value → List Value
  | [] => l
  | u :: us => setAll (l.set p u) (p + 1) us
theorem setAll_at (us : List Value) : ∀ (A B : List Value), us.length ≤ B.length → setAll (A ++ B) A.length us = A ++ us ++ B.drop us.length := by
  induction us with
  | nil => intro A B _; simp [setAll]
  | cons u us ih =>
    intro A B h
    cases B with
    | nil => simp at h
    | cons b B =>
      rw [setAll, List.set_append_right _ _ (Nat.le_refl _), Nat.sub_self, List.set_cons_zero]
      have := ih (A ++ [u]) B (by simpa using h)
      rw [List.length_append, List.append_assoc] at this
      simp only [List.length_cons, List.length_nil, List.cons_append, List.nil_append, Nat.zero_add] at this
      rw [this]
      simp
/-- The first k are marked. -/
def half (m : Nat → Nat → List Value) (sz i k : Nat) (xs : List Value) : List Value := mks m i 0 k ++ xs.drop (k * sz)
theorem half_zero (m : Nat → Nat → List Value) (sz i : Nat) (xs : List Value) : half m sz i 0 xs = xs := by simp [half, mks_zero]
theorem half_all {m : Nat → Nat → List Value} {sz i k : Nat} {xs : List Value} (h : xs.length ≤ k * sz) : half m sz i k xs = mks m i 0 k := by rw [half, List.drop_of_length_le h, List.append_nil]
theorem half_step {m : Nat → Nat → List Value} {sz : Nat} (hm : ∀ i k, (m i k).length = sz) {i k : Nat} {xs : List Value} (h : (k + 1) * sz ≤ xs.length) : setAll (half m sz i k xs) (k * sz) (m i k) = half m sz i (k + 1) xs := by
  have := setAll_at (m i k) (mks m i 0 k) (xs.drop (k * sz)) (by rw [hm, List.length_drop]; rw [Nat.add_mul, Nat.one_mul] at h; omega)
  rw [mks_len hm] at this
  rw [half, this, half, mks_succ, Nat.zero_add, List.drop_drop, hm, Nat.add_mul, Nat.one_mul]
/-- The rows from the k-th on. -/
def RowsG (base : Nat) (ty : TypeId) (sz : Nat) (w : World) (L : List Lst) (k : Nat) (f : Nat → List Value) : Prop := ∀ j, k ≤ j → ∀ h : j < L.length, w.ownsRow base ty sz L[j].v L[j].n (f j)
theorem RowsF.from_ {base : Nat} {ty : TypeId} {sz : Nat} {w : World} {L : List Lst} {f : Nat → List Value} (h : RowsF base ty sz w L f) : RowsG base ty sz w L 0 f := fun j _ hj => h j hj
/-- The first k lists have grown, each by 72 marks: they are G, in the list vo. -/
def GrownG (TS : TypeId) (m : Nat → Nat → List Value) (w0 w : World) (L : List Lst) (vo : Value) (k : Nat) (G : List Value) : Prop :=
  G.length = k ∧ w.ownsRow w0.heap.size TS 1 vo k G ∧ ∀ j (hj : j < L.length) g, G[j]? = some g → RdAt w g (L[j].n + 72) (mks m j 0 (L[j].n + 72)) ∧ RdAt w L[j].v L[j].n (mks m j 0 L[j].n) ∧
    ∀ q, g.ownBlock = some q → q < w.heap.size ∧ (L[j].v.ownBlock = some q ∨ (w0.heap.size ≤ q ∧ vo.ownBlock ≠ some q))
def Grown (TS : TypeId) (m : Nat → Nat → List Value) (w0 w : World) (L : List Lst) (vo : Value) (k : Nat) : Prop := ∃ G : List Value, GrownG TS m w0 w L vo k G
theorem Grown.start (TS : TypeId) (m : Nat → Nat → List Value) (w : World) (L : List Lst) : Grown TS m w w L (.slice none 0 0) 0 :=
  ⟨[], rfl, World.ownsRow_nil _ _ _ _, fun j hj g h => by simp at h⟩
section
variable {TS e : TypeId} {m : Nat → Nat → List Value} {w0 wr w3 w4 : World} {L : List Lst} {vo vo' vg : Value} {k base sz : Nat} {G : List Value}
theorem GrownG.own3 (hg : GrownG TS m w0 wr L vo k G) {xs xs0 : List Value} {n n0 : Nat} {hk : k < L.length} (hI : GrowI wr w3 base e sz L[k].v n0 xs0 vg n xs) (hL : ∀ q, blks L q → q < w0.heap.size) : w3.ownsRow w0.heap.size TS 1 vo k G :=
  hI.2.2.2.2.row hg.2.1 (fun q hq e => by
    have h1 := (hg.2.1.lt q hq).1
    have h2 := hL q ⟨k, hk, e⟩
    omega)
theorem GrownG.step (hg : GrownG TS m w0 wr L vo k G) (hk : k < L.length) (hI : GrowI wr w3 base e sz L[k].v L[k].n (mks m k 0 L[k].n) vg (L[k].n + 72) (mks m k 0 (L[k].n + 72))) (hL : ∀ q, blks L q → q < w0.heap.size) (hD : Dis L) {o : Obj}
    (hr : RowsG base e sz wr L k (fun j => mks m j 0 (nOf L j))) (hc : Chg (blks L) w0 wr) (hp : AppPost (w3.alloc o) w0.heap.size TS 1 vo k G 1 [vg] vo' w4) :
    Grown TS m w0 w4 L vo' (k + 1) ∧ RowsG base e sz w4 L (k + 1) (fun j => mks m j 0 (nOf L j)) ∧ Chg (blks L) w0 w4 := by
  obtain ⟨g1, g2, g3⟩ := hg
  have c1 : Chg (fun q => L[k].v.ownBlock = some q) wr w3 := hI.2.2.2.2
  have c2 : Chg (fun q => vo.ownBlock = some q) w3 w4 := ((Chg.refl (fun q => vo.ownBlock = some q) w3).alloc o).trans hp.chg (fun _ _ h => h)
  have s1 := c1.size
  have s2 := hp.grows
  have s0 := hc.size
  have hvo : ∀ q, vo.ownBlock = some q → w0.heap.size ≤ q ∧ q < wr.heap.size := fun q hq => g2.lt q hq
  have hLk : ∀ j (hj : j < L.length) q, L[j].v.ownBlock = some q → q < w0.heap.size := fun j hj q hq => hL q ⟨j, hj, hq⟩
  have hvg : ∀ q, vg.ownBlock = some q → q < w3.heap.size ∧ (L[k].v.ownBlock = some q ∨ wr.heap.size ≤ q) := fun q hq => ⟨(hI.1.lt q hq).2, hI.2.2.2.1 q hq⟩
  have hsz : (w3.alloc o).heap.size = w3.heap.size + 1 := by simp
  rw [hsz] at s2
  have hvo' : ∀ q, vo'.ownBlock = some q → vo.ownBlock = some q ∨ w3.heap.size < q := fun q hq => (hp.blk hq).imp id (fun h => by omega)
  refine ⟨⟨G ++ [vg], by simp [g1], by simpa using hp.1, fun j hj g hgj => ?_⟩, fun j hkj hj => ?_, ?_⟩
  · rcases Nat.lt_or_ge j k with hlt | hge
    · rw [List.getElem?_append_left (by omega)] at hgj
      obtain ⟨r1, r2, r3⟩ := g3 j hj g hgj
      have hne : j ≠ k := by omega
      refine ⟨(r1.kept c1 (fun q hq hq' => ?_)).kept c2 (fun q hq hq' => ?_), (r2.kept c1 (fun q hq hq' => ?_)).kept c2 (fun q hq hq' => ?_), fun q hq => ?_⟩
      · rcases (r3 q hq).2 with e | ⟨e, _⟩
        · exact hD j k hj hk q hne e hq'
        · have := hLk k hk q hq'; omega
      · rcases (r3 q hq).2 with e | ⟨_, e⟩
        · have := hLk j hj q e; have := hvo q hq'; omega
        · exact e hq'
      · exact hD j k hj hk q hne hq hq'
      · have := hLk j hj q hq; have := hvo q hq'; omega
      · obtain ⟨r4, r5⟩ := r3 q hq
        refine ⟨by omega, r5.imp id (fun ⟨a, b⟩ => ⟨a, fun e => ?_⟩)⟩
        rcases hvo' q e with e | e
        · exact b e
        · omega
    · obtain rfl : j = k := by
        have := (List.getElem?_eq_some_iff.1 hgj).1
        simp at this; omega
      rw [List.getElem?_append_right (by omega), g1, Nat.sub_self] at hgj
      cases hgj
      refine ⟨(RdAt.own hI.1).kept c2 (fun q hq hq' => ?_), hI.2.1.kept c2 (fun q hq hq' => ?_), fun q hq => ?_⟩
      · rcases (hvg q hq).2 with e | e
        · have := hLk j hj q e; have := hvo q hq'; omega
        · have := hvo q hq'; omega
      · have := hLk j hj q hq; have := hvo q hq'; omega
      · obtain ⟨r4, r5⟩ := hvg q hq
        refine ⟨by omega, r5.imp id (fun h => ⟨by omega, fun e => ?_⟩)⟩
        rcases hvo' q e with e | e
        · have := hvo q e; omega
        · omega
  · have h1 := hr j (by omega) hj
    exact c2.row (c1.row h1 (fun q hq e => hD j k hj hk q (by omega) hq e)) (fun q hq e => by have := hLk j hj q hq; have := hvo q e; omega)
  · exact (hc.trans c1 (fun q _ e => ⟨k, hk, e⟩)).trans c2 (fun q hq e => by have := hvo q e; omega)
end
/-- What keeping one more list does, step by step. -/
def AddPost (w : World) (B : Nat) (TS e : TypeId) (sz : Nat) (vh vw v : Value) (n q : Nat) (H W xs : List Value) (iH iW : Nat) (w' : World) : Prop :=
  ∃ vh' w1 w2 cp w3 vw' w4 o1 o2, AppPost (w.alloc o1) (B + 1) TS 1 vh n H 1 [v] vh' w1 ∧ w2 = w1.setCell ⟨B, iH, none⟩ vh' ∧ w3.ownsRow w2.heap.size e sz cp q xs ∧ Below w2.heap.size w2.drew w3 ∧
    AppPost (w3.alloc o2) (B + 1) TS 1 vw n W 1 [cp] vw' w4 ∧ w' = w4.setCell ⟨B, iW, none⟩ vw'

theorem blks_app {L : List Lst} {l : Lst} {k : Nat} : blks (L ++ [l]) k ↔ blks L k ∨ l.v.ownBlock = some k := by
  constructor
  · rintro ⟨j, hj, e⟩
    rcases Nat.lt_or_ge j L.length with h | h
    · rw [List.getElem_append_left h] at e; exact .inl ⟨j, h, e⟩
    · have : j = L.length := by simp at hj; omega
      subst this
      simp at e
      exact .inr e
  · rintro (⟨j, hj, e⟩ | e)
    · exact ⟨j, by simp; omega, by rw [List.getElem_append_left hj]; exact e⟩
    · exact ⟨L.length, by simp, by simpa using e⟩
theorem Dis.app {L : List Lst} {l : Lst} (h : Dis L) (hl : ∀ k, l.v.ownBlock = some k → ¬ blks L k) : Dis (L ++ [l]) := by
  intro i j hi hj k hne e1 e2
  rcases Nat.lt_or_ge i L.length with h1 | h1 <;> rcases Nat.lt_or_ge j L.length with h2 | h2
  · rw [List.getElem_append_left h1] at e1
    rw [List.getElem_append_left h2] at e2
    exact h i j h1 h2 k hne e1 e2
  · have : j = L.length := by simp at hj; omega
    subst this
    rw [List.getElem_append_left h1] at e1
    simp at e2
    exact hl k e2 ⟨i, h1, e1⟩
  · have : i = L.length := by simp at hi; omega
    subst this
    rw [List.getElem_append_left h2] at e2
    simp at e1
    exact hl k e1 ⟨j, h2, e2⟩
  · simp at hi hj; omega
theorem Chg.of_drew {S : Nat → Prop} {w w' : World} (hb : Below w.heap.size w.drew w') : Chg S w w' := ⟨hb.os, hb.tape, hb.output, hb.size, fun k hk _ => hb.block k hk⟩

/-- The lists of one kind that a book keeps, with copies of them; all that lies in blocks of S. -/
structure KS (TS e : TypeId) (sz base : Nat) (w : World) (B : Nat) (vh vw : Value) (L : List Lst) (S : Nat → Prop) : Prop where
  hd : w.ownsRow (B + 1) TS 1 vh L.length (L.map (·.v))
  wd : ∃ W, w.ownsRow (B + 1) TS 1 vw L.length W ∧ ∀ j (hj : j < L.length) u, W[j]? = some u → RdAt w u L[j].n L[j].xs ∧ ∀ k, u.ownBlock = some k → S k ∧ vh.ownBlock ≠ some k ∧ vw.ownBlock ≠ some k ∧ ¬ blks L k
  rows : ∀ j (hj : j < L.length), w.ownsRow base e sz L[j].v L[j].n L[j].xs
  dis : Dis L
  sh : ∀ k, vh.ownBlock = some k → S k ∧ ¬ blks L k ∧ vw.ownBlock ≠ some k
  sw : ∀ k, vw.ownBlock = some k → S k ∧ ¬ blks L k
  sl : ∀ k, blks L k → S k
  lt : ∀ k, S k → k ≠ B ∧ k < w.heap.size
theorem KS.start (TS e : TypeId) (sz base : Nat) (w : World) (B : Nat) : KS TS e sz base w B (.slice none 0 0) (.slice none 0 0) [] (fun _ => False) :=
  ⟨World.ownsRow_nil _ _ _ _, ⟨[], World.ownsRow_nil _ _ _ _, fun j hj => by simp at hj⟩, fun j hj => by simp at hj, fun i j hi => by simp at hi, fun k h => by simp [Value.ownBlock] at h, fun k h => by simp [Value.ownBlock] at h, fun k ⟨j, hj, _⟩ => by simp at hj, fun k h => h.elim⟩
theorem KS.kept {TS e : TypeId} {sz base : Nat} {w w' : World} {B : Nat} {vh vw : Value} {L : List Lst} {S T : Nat → Prop} (h : KS TS e sz base w B vh vw L S) (hc : Chg T w w') (hT : ∀ k, S k → ¬ T k) : KS TS e sz base w' B vh vw L S := by
  obtain ⟨W, h1, h2⟩ := h.wd
  refine ⟨hc.row h.hd (fun k hk => hT k (h.sh k hk).1), ⟨W, hc.row h1 (fun k hk => hT k (h.sw k hk).1), fun j hj u hu => ⟨(h2 j hj u hu).1.kept hc (fun k hk => hT k ((h2 j hj u hu).2 k hk).1), (h2 j hj u hu).2⟩⟩, fun j hj => hc.row (h.rows j hj) (fun k hk => hT k (h.sl k ⟨j, hj, hk⟩)), h.dis, h.sh, h.sw, h.sl, fun k hk => ⟨(h.lt k hk).1, Nat.lt_of_lt_of_le (h.lt k hk).2 hc.size⟩⟩
theorem KS.add {TS e BT : TypeId} {sz base : Nat} {w w' : World} {B : Nat} {vh vw v : Value} {L : List Lst} {S : Nat → Prop} {q : Nat} {W xs : List Value} {iH iW : Nat} {cur : Array Value} (h : KS TS e sz base w B vh vw L S)
    (hW : w.ownsRow (B + 1) TS 1 vw L.length W) (hW2 : ∀ j (hj : j < L.length) u, W[j]? = some u → RdAt w u L[j].n L[j].xs ∧ ∀ k, u.ownBlock = some k → S k ∧ vh.ownBlock ≠ some k ∧ vw.ownBlock ≠ some k ∧ ¬ blks L k)
    (hB : w.heap[B]? = some (.cells cur BT (0, 0))) (hv : w.ownsRow base e sz v q xs) (hvS : ∀ k, v.ownBlock = some k → ¬ S k ∧ k ≠ B) (hp : AddPost w B TS e sz vh vw v L.length q (L.map (·.v)) W xs iH iW w') :
    ∃ vh' vw', w'.heap[B]? = some (.cells ((cur.setIfInBounds iH vh').setIfInBounds iW vw') BT (0, 0)) ∧ KS TS e sz base w' B vh' vw' (L ++ [⟨v, q, xs⟩]) (fun k => S k ∨ v.ownBlock = some k ∨ (w.heap.size ≤ k ∧ k < w'.heap.size)) ∧ Chg (fun k => k = B ∨ S k) w w' := by
  obtain ⟨vh', w1, w2, cp, w3, vw', w4, o1, o2, p1, rfl, p3, p4, p5, rfl⟩ := hp
  have hBl := lt_of hB
  have c1 : Chg (fun k => vh.ownBlock = some k) w w1 := ((Chg.refl _ w).alloc o1).trans p1.chg (fun _ _ h => h)
  have c2 : Chg (fun k => k = B) w1 (w1.setCell ⟨B, iH, none⟩ vh') := (Chg.refl (fun k => k = B) w1).setCell (a := ⟨B, iH, none⟩) (fun _ => rfl) vh'
  have c3 : Chg (fun _ => False) (w1.setCell ⟨B, iH, none⟩ vh') w3 := Chg.of_drew p4
  have c4 : Chg (fun k => vw.ownBlock = some k) w3 w4 := ((Chg.refl _ w3).alloc o2).trans p5.chg (fun _ _ h => h)
  have c5 : Chg (fun k => k = B) w4 (w4.setCell ⟨B, iW, none⟩ vw') := (Chg.refl (fun k => k = B) w4).setCell (a := ⟨B, iW, none⟩) (fun _ => rfl) vw'
  have e2 : (w1.setCell ⟨B, iH, none⟩ vh').heap.size = w1.heap.size := by simp
  have e5 : (w4.setCell ⟨B, iW, none⟩ vw').heap.size = w4.heap.size := by simp
  have s1 := c1.size
  have s3 := c3.size
  have s4 := c4.size
  have g1 := p1.grows
  have g5 := p5.grows
  simp only [World.size_alloc] at g1 g5
  rw [e2] at s3
  have hvh : ∀ k, vh.ownBlock = some k → B < k ∧ k < w.heap.size := fun k hk => h.hd.lt k hk
  have hvw : ∀ k, vw.ownBlock = some k → B < k ∧ k < w.heap.size := fun k hk => hW.lt k hk
  have hvl : ∀ k, v.ownBlock = some k → k < w.heap.size := fun k hk => (hv.lt k hk).2
  have hvh' : ∀ k, vh'.ownBlock = some k → (vh.ownBlock = some k ∨ (w.heap.size ≤ k ∧ k < w1.heap.size)) := fun k hk => (p1.blk hk).imp id (fun h => ⟨by simp at h; omega, (p1.1.lt k hk).2⟩)
  have hvw' : ∀ k, vw'.ownBlock = some k → (vw.ownBlock = some k ∨ (w3.heap.size ≤ k ∧ k < w4.heap.size)) := fun k hk => (p5.blk hk).imp id (fun h => ⟨by simp at h; omega, (p5.1.lt k hk).2⟩)
  have hcp : ∀ k, cp.ownBlock = some k → w1.heap.size ≤ k ∧ k < w3.heap.size := fun k hk => by have := p3.lt k hk; rw [e2] at this; exact this
  have T : Chg (fun k => k = B ∨ vh.ownBlock = some k ∨ vw.ownBlock = some k) w (w4.setCell ⟨B, iW, none⟩ vw') :=
    ((((c1.mono (fun k _ e => .inr (.inl e))).trans c2 (fun k _ e => .inl e)).trans c3 (fun _ _ e => e.elim)).trans c4 (fun k _ e => .inr (.inr e))).trans c5 (fun k _ e => .inl e)
  have b1 := c1.heap hB (fun e => by have := hvh B e; omega)
  have b2 := heap_setCell (i := iH) b1 vh'
  have b3 := c3.heap b2 id
  have b4 := c4.heap b3 (fun e => by have := hvw B e; omega)
  have b5 := heap_setCell (i := iW) b4 vw'
  refine ⟨vh', vw', b5, ⟨?_, ⟨W ++ [cp], ?_, fun j hj u hu => ?_⟩, fun j hj => ?_, h.dis.app (fun k hk hb => (hvS k hk).1 (h.sl k hb)), fun k hk => ⟨?_, fun hb => ?_, fun e => ?_⟩, fun k hk => ⟨?_, fun hb => ?_⟩, fun k hk => ?_, fun k hk => ?_⟩, ?_⟩
  · have r1 := c2.row p1.1 (fun k hk e => by have := (p1.1.lt k hk).1; omega)
    have r2 := c4.row (c3.row r1 (fun _ _ => id)) (fun k hk e => by
      rcases hvh' k hk with h6 | h6
      · exact (h.sh k h6).2.2 e
      · have := hvw k e; omega)
    have r3 := c5.row r2 (fun k hk e => by have := (p1.1.lt k hk).1; omega)
    simpa using r3
  · have r3 := c5.row p5.1 (fun k hk e => by have := (p5.1.lt k hk).1; omega)
    simpa using r3
  · have hWl : W.length = L.length := by have := hW.1; omega
    rcases Nat.lt_or_ge j L.length with hlt | hge
    · rw [List.getElem?_append_left (by omega)] at hu
      obtain ⟨r1, r2⟩ := hW2 j hlt u hu
      rw [List.getElem_append_left hlt]
      refine ⟨r1.kept T (fun k hk e => ?_), fun k hk => ⟨.inl (r2 k hk).1, fun e => ?_, fun e => ?_, fun e => ?_⟩⟩
      · obtain ⟨q1, q2, q3, _⟩ := r2 k hk
        rcases e with e | e | e
        · have := h.lt k q1; omega
        · exact q2 e
        · exact q3 e
      · have := h.lt k (r2 k hk).1
        rcases hvh' k e with h6 | h6
        · exact (r2 k hk).2.1 h6
        · omega
      · have := h.lt k (r2 k hk).1
        rcases hvw' k e with h6 | h6
        · exact (r2 k hk).2.2.1 h6
        · omega
      · rcases blks_app.1 e with h6 | h6
        · exact (r2 k hk).2.2.2 h6
        · exact (hvS k h6).1 (r2 k hk).1
    · have : j = L.length := by simp at hj; omega
      subst this
      rw [List.getElem?_append_right (by omega), hWl, Nat.sub_self] at hu
      cases hu
      have r1 : RdAt (w4.setCell ⟨B, iW, none⟩ vw') cp q xs := ((RdAt.own p3).kept c4 (fun k hk e => by have := hcp k hk; have := hvw k e; omega)).kept c5 (fun k hk e => by have := hcp k hk; omega)
      refine ⟨by simpa using r1, fun k hk => ?_⟩
      have h7 := hcp k hk
      refine ⟨.inr (.inr ⟨by omega, by omega⟩), fun e => ?_, fun e => ?_, fun e => ?_⟩
      · rcases hvh' k e with h6 | h6
        · have := hvh k h6; omega
        · omega
      · rcases hvw' k e with h6 | h6
        · have := hvw k h6; omega
        · omega
      · rcases blks_app.1 e with h6 | h6
        · have := h.lt k (h.sl k h6); omega
        · have := hvl k h6; omega
  · rcases Nat.lt_or_ge j L.length with hlt | hge
    · rw [List.getElem_append_left hlt]
      refine T.row (h.rows j hlt) (fun k hk e => ?_)
      have h6 : blks L k := ⟨j, hlt, hk⟩
      rcases e with e | e | e
      · have := h.lt k (h.sl k h6); omega
      · exact (h.sh k e).2.1 h6
      · exact (h.sw k e).2 h6
    · have : j = L.length := by simp at hj; omega
      subst this
      have r1 := T.row hv (fun k hk e => by
        obtain ⟨q1, q2⟩ := hvS k hk
        rcases e with e | e | e
        · omega
        · exact q1 (h.sh k e).1
        · exact q1 (h.sw k e).1)
      simpa using r1
  · rcases hvh' k hk with h6 | h6
    · exact .inl (h.sh k h6).1
    · exact .inr (.inr ⟨h6.1, by omega⟩)
  · rcases hvh' k hk with h6 | h6
    · rcases blks_app.1 hb with h7 | h7
      · exact (h.sh k h6).2.1 h7
      · exact (hvS k h7).1 (h.sh k h6).1
    · rcases blks_app.1 hb with h7 | h7
      · have := h.lt k (h.sl k h7); omega
      · have := hvl k h7; omega
  · rcases hvh' k hk with h6 | h6 <;> rcases hvw' k e with h7 | h7
    · exact (h.sh k h6).2.2 h7
    · have := hvh k h6; omega
    · have := hvw k h7; omega
    · omega
  · rcases hvw' k hk with h6 | h6
    · exact .inl (h.sw k h6).1
    · exact .inr (.inr ⟨by omega, by omega⟩)
  · rcases hvw' k hk with h6 | h6
    · rcases blks_app.1 hb with h7 | h7
      · exact (h.sw k h6).2 h7
      · exact (hvS k h7).1 (h.sw k h6).1
    · rcases blks_app.1 hb with h7 | h7
      · have := h.lt k (h.sl k h7); omega
      · have := hvl k h7; omega
  · rcases blks_app.1 hk with h6 | h6
    · exact .inl (h.sl k h6)
    · exact .inr (.inl h6)
  · rcases hk with h6 | h6 | h6
    · have := h.lt k h6; omega
    · have := hvl k h6; have := (hvS k h6).2; omega
    · omega
  · exact T.mono (fun k _ e => by
      rcases e with e | e | e
      · exact .inl e
      · exact .inr (h.sh k e).1
      · exact .inr (h.sw k e).1)

/-- The lists are marked. -/
structure KP (TS e : TypeId) (sz base : Nat) (m : Nat → Nat → List Value) (w : World) (B : Nat) (vh : Value) (L : List Lst) (S : Nat → Prop) : Prop where
  hd : w.ownsRow (B + 1) TS 1 vh L.length (L.map (·.v))
  rows : RowsF base e sz w L (fun j => mks m j 0 (nOf L j))
  dis : Dis L
  sh : ∀ k, vh.ownBlock = some k → S k ∧ ¬ blks L k
  sl : ∀ k, blks L k → S k
  lt : ∀ k, S k → k ≠ B ∧ k < w.heap.size
theorem KP.kept {TS e : TypeId} {sz base : Nat} {m : Nat → Nat → List Value} {w w' : World} {B : Nat} {vh : Value} {L : List Lst} {S T : Nat → Prop} (h : KP TS e sz base m w B vh L S) (hc : Chg T w w') (hT : ∀ k, S k → ¬ T k) : KP TS e sz base m w' B vh L S :=
  ⟨hc.row h.hd (fun k hk => hT k (h.sh k hk).1), h.rows.kept hc (fun k hk => hT k (h.sl k hk)), h.dis, h.sh, h.sl, fun k hk => ⟨(h.lt k hk).1, Nat.lt_of_lt_of_le (h.lt k hk).2 hc.size⟩⟩
theorem KS.put {TS e : TypeId} {sz base : Nat} {m : Nat → Nat → List Value} {w w' : World} {B : Nat} {vh vw : Value} {L : List Lst} {S : Nat → Prop} (h : KS TS e sz base w B vh vw L S) (hr : RowsF base e sz w' L (fun j => mks m j 0 (nOf L j))) (hc : Chg (blks L) w w') : KP TS e sz base m w' B vh L S ∧ Chg S w w' :=
  ⟨⟨hc.row h.hd (fun k hk => (h.sh k hk).2.1), hr, h.dis, fun k hk => ⟨(h.sh k hk).1, (h.sh k hk).2.1⟩, h.sl, fun k hk => ⟨(h.lt k hk).1, Nat.lt_of_lt_of_le (h.lt k hk).2 hc.size⟩⟩, hc.mono (fun k _ hk => h.sl k hk)⟩
/-- The lists have grown; all can be read. -/
structure KG (m : Nat → Nat → List Value) (w : World) (vh vo : Value) (L : List Lst) (S : Nat → Prop) (G : List Value) : Prop where
  len : G.length = L.length
  out : RdAt w vo L.length G
  so : ∀ k, vo.ownBlock = some k → S k
  hd : RdAt w vh L.length (L.map (·.v))
  sh : ∀ k, vh.ownBlock = some k → S k
  each : ∀ j (hj : j < L.length) g, G[j]? = some g → RdAt w g (L[j].n + 72) (mks m j 0 (L[j].n + 72)) ∧ RdAt w L[j].v L[j].n (mks m j 0 L[j].n) ∧ (∀ k, g.ownBlock = some k → S k) ∧ (∀ k, L[j].v.ownBlock = some k → S k)
theorem KG.kept {m : Nat → Nat → List Value} {w w' : World} {vh vo : Value} {L : List Lst} {S T : Nat → Prop} {G : List Value} (h : KG m w vh vo L S G) (hc : Chg T w w') (hT : ∀ k, S k → ¬ T k) : KG m w' vh vo L S G :=
  ⟨h.len, h.out.kept hc (fun k hk => hT k (h.so k hk)), h.so, h.hd.kept hc (fun k hk => hT k (h.sh k hk)), h.sh, fun j hj g hg => by
    obtain ⟨r1, r2, r3, r4⟩ := h.each j hj g hg
    exact ⟨r1.kept hc (fun k hk => hT k (r3 k hk)), r2.kept hc (fun k hk => hT k (r4 k hk)), r3, r4⟩⟩
theorem KP.grow {TS e : TypeId} {sz base : Nat} {m : Nat → Nat → List Value} {w w' : World} {B : Nat} {vh vo : Value} {L : List Lst} {S : Nat → Prop} (h : KP TS e sz base m w B vh L S) (hg : Grown TS m w w' L vo L.length) (hc : Chg (blks L) w w') :
    ∃ G, KG m w' vh vo L (fun k => S k ∨ (w.heap.size ≤ k ∧ k < w'.heap.size)) G ∧ Chg S w w' := by
  obtain ⟨G, g1, g2, g3⟩ := hg
  refine ⟨G, ⟨g1, RdAt.own g2, fun k hk => .inr (g2.lt k hk), (RdAt.own h.hd).kept hc (fun k hk => (h.sh k hk).2), fun k hk => .inl (h.sh k hk).1, fun j hj g hgj => ?_⟩, hc.mono (fun k _ hk => h.sl k hk)⟩
  obtain ⟨r1, r2, r3⟩ := g3 j hj g hgj
  refine ⟨r1, r2, fun k hk => ?_, fun k hk => .inl (h.sl k ⟨j, hj, hk⟩)⟩
  obtain ⟨q1, q2 | q2⟩ := r3 k hk
  · exact .inl (h.sl k ⟨j, hj, q2⟩)
  · exact .inr ⟨q2.1, q1⟩
end Go.Proofs.YtofejnhnnmnfpaaDoor
