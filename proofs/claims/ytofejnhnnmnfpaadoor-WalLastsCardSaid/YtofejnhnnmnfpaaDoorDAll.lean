/- A map from whole numbers to texts that the call itself has made: looked up, stored into, cleared. No condition. -/
import Derived.Test.YtofejnhnnmnfpaaDoorMk
import Derived.Test.YtofejnhnnmnfpaaDoorProg
import Derived.Test.YtofejnhnnmnfpaaDoorBase
import Derived.Maps.OwnSet
import Derived.Maps.StringElems
import Derived.Lib.Strings
import Derived.Outline
import Derived.Handy
import Derived.BigQuiet
import Derived.Deep.QuietTactic
import Derived.BigRegion
namespace Go.Proofs.YtofejnhnnmnfpaaDoor.Dq
set_option maxRecDepth 100000
open Go.RowKit Go.Maps

theorem mk_size (l : List UInt8) : (mk l).size = l.length := by simp [mk, ByteArray.size]
theorem mk_list (l : List UInt8) : (mk l).data.toList = l := by simp [mk]
theorem mk_of (s : ByteArray) : mk s.data.toList = s := by simp [mk]
@[go_sem] theorem mk_toList (l : List UInt8) : (mk l).toList = l := by rw [Lib.toList_data, mk_list]

def SMap (w : World) (b n : Nat) (f : Nat → Option (List UInt8)) : Prop :=
  ∃ D : DataW Unit, w.ownsMap Tryd.prog 3 (plainElem Tryd.prog 9) b n D ∧
    ∀ k : Nat, k ≤ 9223372036854775807 → has D (.int .i64 (k : Int)) = (f k).isSome ∧ ∀ s, f k = some s → ∀ z, D.atKey (.int .i64 (k : Int)) z = .lit (.string s)

theorem nat_wf (k : Nat) (h : k ≤ 9223372036854775807) : (Lit.int .i64 (k : Int)).wf = true := WalkArith.wf_i64 (by omega)
theorem Tryd.mapKeyed : Keyed Tryd.prog 3 := int_keyed Tryd.underlying3

theorem SMap.made (w : World) : SMap (w.alloc (.map #[] 0)) w.heap.size 0 (fun _ => none) :=
  ⟨.map [], World.ownsMap_made _ _ _ _, fun k _ => ⟨rfl, fun s h => by cases h⟩⟩
theorem SMap.chg {S : Nat → Prop} {w w' : World} {b n : Nat} {f : Nat → Option (List UInt8)} (h : SMap w b n f) (c : Chg S w w') (hn : ¬ S b) : SMap w' b n f := by
  obtain ⟨D, ho, hf⟩ := h
  obtain ⟨es, clock, hb, r⟩ := ho
  exact ⟨D, ⟨es, clock, c.heap hb hn, r⟩, hf⟩
theorem SMap.block {w : World} {b n : Nat} {f : Nat → Option (List UInt8)} (h : SMap w b n f) : ∃ es clock, w.heap[b]? = some (.map es clock) := by
  obtain ⟨D, ⟨es, clock, hb, _⟩, _⟩ := h
  exact ⟨es, clock, hb⟩
theorem SMap.congr {w : World} {b n : Nat} {f g : Nat → Option (List UInt8)} (h : SMap w b n f) (e : ∀ k, f k = g k) : SMap w b n g := by
  have : f = g := funext e
  exact this ▸ h

section
variable {w : World} {ops : Array Oper} {rest : List Oper} {o : Oper} {a : Act} {Q : Exit → Act → World → Prop} {b n : Nat} {f : Nat → Option (List UInt8)}
theorem run_smap_look (hs : SMap w b n f) (k : Nat) (hk : k ≤ 9223372036854775807) :
    (Instr.lookup 59 (.map (some b)) (.int .i64 (k : Int)) true).run Tryd.prog w = .ok (.tuple #[.string (mk ((f k).getD [])), .bool (f k).isSome]) w := by
  obtain ⟨D, ho, hf⟩ := hs
  obtain ⟨h1, h2⟩ := hf k hk
  have hzero : (zeroValue 9).run Tryd.prog w = .ok (.string ByteArray.empty) w := by kernel_rfl
  obtain ⟨v, ps, hrun, hv⟩ := ho.look_ok Tryd.mapKeyed Tryd.underlying59 hzero (plainElem_string (H := Unit) Tryd.underlying9 (by unfold maxLen; simp)) (keyOf_int_mk Tryd.underlying3 (nat_wf k hk))
  obtain ⟨s, rfl, hc, _⟩ := plainElem_string_inv Tryd.underlying9 hv
  have hc := congrArg Prod.fst hc
  simp only at hc
  rw [hrun, h1]
  cases hfk : f k with
  | none =>
    rw [hfk] at h1
    rw [atKey_of_not_has h1] at hc
    have : s = ByteArray.empty := by
      apply ByteArray.ext
      apply Array.ext'
      simpa using hc.symm
    subst this
    rfl
  | some t =>
    rw [h2 t hfk] at hc
    have : s = mk t := by
      simp at hc
      rw [hc, mk_of]
    subst this
    rfl
theorem wpList_smap_put (hg : o.guard = none) (m x v : Operand) (hop : o.op = Op.mapUpdate 59 m x v) (hm : a.eval m = .map (some b)) (hs : SMap w b n f) (hn : n < maxLen) (k : Nat) (s : List UInt8)
    (hx : a.eval x = .int .i64 (k : Int)) (hv : a.eval v = .string (mk s)) (hk : k ≤ 9223372036854775807) (hsl : s.length ≤ maxLen)
    (hK : ∀ w', SMap w' b (n + 1) (fun j => if j = k then some s else f j) → w.grownBy w' (some b) → wpList Tryd.prog ops Q rest (a.put o.dst undef) w') :
    wpList Tryd.prog ops Q (o :: rest) a w := by
  obtain ⟨D, ho, hf⟩ := hs
  refine wpList_mapUpdate_own w hg m x v 59 hop 3 9 Tryd.mapKeyed Tryd.underlying59 (plainElem Tryd.prog 9) b n D hm ho hn _ _ _ hx hv (keyOf_int_mk Tryd.underlying3 (nat_wf k hk)) (.lit (.string s)) [] (by
    have := plainElem_string (H := Unit) (P := Tryd.prog) Tryd.underlying9 (s := mk s) (by rw [mk_size]; exact hsl)
    rwa [mk_list] at this) fun w' ho' hgr => hK w' ⟨_, ho', fun j hj => ?_⟩ hgr
  have hkey : WideAt.IsKeyLit (.int .i64 (k : Int)) := (Tryd.mapKeyed).key (keyOf_int_mk Tryd.underlying3 (nat_wf k hk))
  by_cases e : j = k
  · subst e
    exact ⟨by simp [has_put_same ho.isMap hkey], fun t ht z => by simp at ht; subst ht; exact atKey_put_same ho.isMap hkey _ _⟩
  · have hne : (Lit.int .i64 (j : Int)) ≠ .int .i64 (k : Int) := by intro h; injection h; omega
    obtain ⟨h1, h2⟩ := hf j hj
    exact ⟨by simp only [if_neg e]; rw [has_put_other hne]; exact h1, fun t ht z => by simp only [if_neg e] at ht; rw [atKey_put_other hne]; exact h2 t ht z⟩
theorem run_smap_clear (hs : SMap w b n f) (ty : TypeId) : ∃ w', (Builtin.clear_ #[59] ty #[.map (some b)]).run Tryd.prog w = .ok (.tuple #[]) w' ∧ SMap w' b 0 (fun _ => none) ∧ w.grownBy w' (some b) := by
  obtain ⟨D, ⟨es, clock, hb, _⟩, _⟩ := hs
  refine ⟨ChangeMaps.setBlock w b (.map #[] clock), ?_, ⟨.map [], ⟨#[], clock, ChangeMaps.heap_setBlock_same hb _, ⟨by simp, ?_, by simp⟩, Nat.le_refl _, rfl⟩, fun k _ => ⟨rfl, fun s h => by cases h⟩⟩, ⟨rfl, rfl, rfl, by simp [ChangeMaps.setBlock], fun i _ hi => ChangeMaps.heap_setBlock_other hb _ (fun e => hi (by rw [e]))⟩⟩
  · simp [Builtin.clear_, run_underlying Tryd.underlying59, MapKept.run_getObj_map hb, MapKept.run_setObj_map _ hb, Result.andThen, ChangeMaps.setBlock]
  · simp [MapKept.Stamped]
theorem wpList_smap_clear (hg : o.guard = none) (m : Operand) (hop : o.op = Op.call { callee := Callee.builtin Builtin.clear, args := #[m], argTypes := #[59] }) (hm : a.eval m = .map (some b)) (hs : SMap w b n f)
    (hK : ∀ w', SMap w' b 0 (fun _ => none) → w.grownBy w' (some b) → wpList Tryd.prog ops Q rest (a.put o.dst (.tuple #[])) w') :
    wpList Tryd.prog ops Q (o :: rest) a w := by
  refine wpList_plain hg fun K' hK' => ?_
  obtain ⟨w', hrun, r1, r2⟩ := run_smap_clear hs o.type
  unfold Oper.wp
  simp [execOp, hop, resolve, invoke, builtin, hm, hrun, Result.andThen]
  exact hK' _ _ (hK w' r1 r2)
end
end Go.Proofs.YtofejnhnnmnfpaaDoor.Dq
/- The Disk of package disk in memory; what its small methods answer; Write. No condition. -/
namespace Go.Proofs.YtofejnhnnmnfpaaDoor.Dq
set_option maxRecDepth 100000
open Go.RowKit

/-- A DISK AS PLAIN DATA. -/
structure Dk where
  safe : List (List UInt8)
  pend : List (Nat × List UInt8)
  stops : Bool
  after : Nat
  dead : Bool

/-- What was written last to a sector, and is pending. -/
def latest (l : List (Nat × List UInt8)) (n : Nat) : Option (List UInt8) := (l.reverse.find? (fun p => p.1 == n)).map (·.2)
theorem latest_snoc (l : List (Nat × List UInt8)) (k : Nat) (s : List UInt8) (n : Nat) : latest (l ++ [(k, s)]) n = if n = k then some s else latest l n := by
  unfold latest
  rw [List.reverse_append]
  by_cases h : n = k
  · subst h; simp
  · have : (k == n) = false := by simp; omega
    simp [this, h]
theorem latest_nil (n : Nat) : latest [] n = none := rfl

def scells (l : List (List UInt8)) : List Value := l.map fun s => Value.string (mk s)
def pcells : List (Nat × List UInt8) → List Value
  | [] => []
  | p :: r => Value.int .i64 (p.1 : Int) :: Value.string (mk p.2) :: pcells r
theorem pcells_append (a b : List (Nat × List UInt8)) : pcells (a ++ b) = pcells a ++ pcells b := by
  induction a with
  | nil => rfl
  | cons p a ih => simp [pcells, ih]
theorem pcells_length (a : List (Nat × List UInt8)) : (pcells a).length = a.length * 2 := by
  induction a with
  | nil => rfl
  | cons p a ih => simp [pcells, ih]; omega
theorem pcells_at (a : List (Nat × List UInt8)) : ∀ k (h : k < a.length), (pcells a)[2 * k]? = some (.int .i64 ((a[k]).1 : Int)) ∧ (pcells a)[2 * k + 1]? = some (.string (mk (a[k]).2)) := by
  induction a with
  | nil => intro k h; simp at h
  | cons p a ih =>
    intro k h
    cases k with
    | zero => simp [pcells]
    | succ k =>
      have := ih k (by simpa using h)
      rw [show 2 * (k + 1) = 2 * k + 1 + 1 by omega]
      simpa [pcells] using this

/-- What is fit to lie on a disk. -/
structure Dk.Ok (d : Dk) : Prop where
  few : d.safe.length ≤ 10000
  size : ∀ s ∈ d.safe, s.length = 64
  pend : ∀ p ∈ d.pend, p.1 < d.safe.length ∧ p.2.length = 64
  after : d.after ≤ 9223372036854775807
  many : d.pend.length ≤ 1000000

/-- A DISK IN MEMORY: its block, the rows of its sectors and of its pending writes, its map. -/
def DAt (w : World) (B : Nat) (rs rp : Option Nat) (m : Nat) (d : Dk) : Prop :=
  d.Ok ∧ ∃ vs vp, vs.ownBlock = rs ∧ vp.ownBlock = rp ∧ w.heap[B]? = some (.cells #[vs, vp, .map (some m), .bool d.stops, .int .i64 (d.after : Int), .bool d.dead] 62 (0, 0)) ∧
    w.ownsRow 0 9 1 vs d.safe.length (scells d.safe) ∧ w.ownsRow 0 90 2 vp d.pend.length (pcells d.pend) ∧ SMap w m d.pend.length (latest d.pend)

def DS (B : Nat) (rs rp : Option Nat) (m k : Nat) : Prop := k = B ∨ rs = some k ∨ rp = some k ∨ k = m
def RowOk (w : World) (row row' : Option Nat) : Prop := row' = row ∨ ∀ k, row' = some k → w.heap.size ≤ k
theorem RowOk.refl (w : World) (r : Option Nat) : RowOk w r r := .inl rfl
theorem RowOk.none (w : World) (r : Option Nat) : RowOk w r none := .inr fun _ h => by cases h
def DPost (w w' : World) (B : Nat) (rs rp : Option Nat) (m : Nat) (d : Dk) : Prop := ∃ rp', DAt w' B rs rp' m d ∧ Chg (DS B rs rp m) w w' ∧ RowOk w rp rp'

section
variable {w : World} {B : Nat} {rs rp : Option Nat} {m : Nat} {d : Dk}
/-- The cells that a method reads. -/
theorem DAt.cells (h : DAt w B rs rp m d) : ∃ sa cs ap cp, w.cell? ⟨B, 0, none⟩ = some (.slice sa d.safe.length cs) ∧ w.cell? ⟨B, 1, none⟩ = some (.slice ap d.pend.length cp) ∧ w.cell? ⟨B, 2, none⟩ = some (.map (some m)) ∧
    w.cell? ⟨B, 3, none⟩ = some (.bool d.stops) ∧ w.cell? ⟨B, 4, none⟩ = some (.int .i64 (d.after : Int)) ∧ w.cell? ⟨B, 5, none⟩ = some (.bool d.dead) ∧ (∀ i, w.frozen? ⟨B, i, none⟩ = false) ∧ B < w.heap.size := by
  obtain ⟨_, vs, vp, _, _, hb, hs, hp, _⟩ := h
  obtain ⟨sa, ls, cs, rfl, rfl⟩ := own_form hs
  obtain ⟨ap, lp, cp, rfl, rfl⟩ := own_form hp
  exact ⟨sa, cs, ap, cp, cell_of hb rfl, cell_of hb rfl, cell_of hb rfl, cell_of hb rfl, cell_of hb rfl, cell_of hb rfl, fun i => free_of hb, lt_of hb⟩
theorem kDead (h : DAt w B rs rp m d) : Calls Tryd.prog 46 #[.pointer (some ⟨B, 0, none⟩)] w fun e w' => e = .returned (.bool d.dead) ∧ w = w' := by
  obtain ⟨sa, cs, ap, cp, c0, c1, c2, c3, c4, c5, hf, hB⟩ := h.cells
  clear c0 c1 c2 c3 c4 hf hB h
  go_enter Tryd.func46, Tryd.ntmps46
  go_wp2
  go_ret
  exact ⟨rfl, rfl⟩
theorem kSectors (h : DAt w B rs rp m d) : Calls Tryd.prog 28 #[.pointer (some ⟨B, 0, none⟩)] w fun e w' => e = .returned (.int .i64 (d.safe.length : Int)) ∧ w = w' := by
  obtain ⟨sa, cs, ap, cp, c0, c1, c2, c3, c4, c5, hf, hB⟩ := h.cells
  clear c5 c1 c2 c3 c4 hf hB h
  go_enter Tryd.func28, Tryd.ntmps28
  go_wp2
  go_ret
  exact ⟨rfl, rfl⟩
theorem kPending (h : DAt w B rs rp m d) : Calls Tryd.prog 25 #[.pointer (some ⟨B, 0, none⟩)] w fun e w' => e = .returned (.int .i64 (d.pend.length : Int)) ∧ w = w' := by
  obtain ⟨sa, cs, ap, cp, c0, c1, c2, c3, c4, c5, hf, hB⟩ := h.cells
  clear c5 c0 c2 c3 c4 hf hB h
  go_enter Tryd.func25, Tryd.ntmps25
  go_wp2
  go_ret
  exact ⟨rfl, rfl⟩
/-- Is there such a sector? -/
def isIn (d : Dk) (n : Int) : Bool := decide (0 ≤ n ∧ n < d.safe.length)
theorem kis (n : Int) (h : DAt w B rs rp m d) : Calls Tryd.prog 54 #[.pointer (some ⟨B, 0, none⟩), .int .i64 n] w fun e w' => e = .returned (.bool (isIn d n)) ∧ w = w' := by
  obtain ⟨sa, cs, ap, cp, c0, c1, c2, c3, c4, c5, hf, hB⟩ := h.cells
  clear c5 c1 c2 c3 c4 hf hB h
  by_cases h0 : 0 ≤ n
  · go_enter Tryd.func54, Tryd.ntmps54
    go_wp2
    go_ret
    exact ⟨by simp [isIn, h0], rfl⟩
  · have hd : decide (0 ≤ n) = false := by simp; omega
    go_enter Tryd.func54, Tryd.ntmps54
    go_wp2
    go_ret
    exact ⟨by simp [isIn, hd], rfl⟩
end
end Go.Proofs.YtofejnhnnmnfpaaDoor.Dq
/- What Read, Write and Stop of a disk answer and leave. No condition. -/
namespace Go.Proofs.YtofejnhnnmnfpaaDoor.Dq
set_option maxRecDepth 100000
open Go.RowKit

def dread (d : Dk) (n : Int) : List UInt8 × Int :=
  if d.dead then ([], 10) else if isIn d n then ((latest d.pend n.toNat).getD (d.safe.getD n.toNat []), 0) else ([], 12)

section
variable {w : World} {B : Nat} {rs rp : Option Nat} {m : Nat} {d : Dk}
/-- The disk's blocks are apart from its own one: by what they hold. -/
theorem DAt.own_ne (h : DAt w B rs rp m d) : rs ≠ some B ∧ rp ≠ some B ∧ m ≠ B := by
  obtain ⟨_, vs, vp, rfl, rfl, hb, hs, hp, hm⟩ := h
  refine ⟨fun e => ?_, fun e => ?_, fun e => ?_⟩
  · obtain ⟨cur, hc⟩ := own_block hs e
    rw [hb] at hc; simp at hc
  · obtain ⟨cur, hc⟩ := own_block hp e
    rw [hb] at hc; simp at hc
  · obtain ⟨es, cl, hc⟩ := hm.block
    rw [e, hb] at hc; simp at hc
theorem DAt.rows_ne (h : DAt w B rs rp m d) : (∀ k, rs = some k → rp ≠ some k) ∧ rs ≠ some m ∧ rp ≠ some m := by
  obtain ⟨_, vs, vp, rfl, rfl, hb, hs, hp, hm⟩ := h
  obtain ⟨es, cl, hmb⟩ := hm.block
  refine ⟨fun k e e' => ?_, fun e => ?_, fun e => ?_⟩
  · obtain ⟨cur, hc⟩ := own_block hs e
    obtain ⟨cur', hc'⟩ := own_block hp e'
    rw [hc] at hc'; simp at hc'
  · obtain ⟨cur, hc⟩ := own_block hs e
    rw [hmb] at hc; simp at hc
  · obtain ⟨cur, hc⟩ := own_block hp e
    rw [hmb] at hc; simp at hc
theorem DAt.safeAt (h : DAt w B rs rp m d) (n : Nat) (hn : n < d.safe.length) : ∃ g c, w.cell? ⟨B, 0, none⟩ = some (.slice (some ⟨g, 0, none⟩) d.safe.length c) ∧ rs = some g ∧ w.cell? ⟨g, n, none⟩ = some (.string (mk (d.safe.getD n []))) := by
  obtain ⟨_, vs, vp, hrs, _, hb, hs, hp, _⟩ := h
  rcases hs.2 with ⟨rfl, h0⟩ | ⟨g, cap, cur, rfl, _⟩
  · omega
  · refine ⟨g, cap, cell_of hb rfl, by rw [← hrs]; rfl, ?_⟩
    have := hs.cells (g := g) (by simp [Value.ownBlock]) n (.string (mk (d.safe.getD n []))) (by simp [scells, hn])
    rwa [Addr.add_lit, Nat.zero_add] at this
theorem kRead (n : Int) (h : DAt w B rs rp m d) : Calls Tryd.prog 29 #[.pointer (some ⟨B, 0, none⟩), .int .i64 n] w fun e w' => e = .returned (.tuple #[.string (mk (dread d n).1), .int .i64 (dread d n).2]) ∧ w = w' := by
  have C := Lib.hid (kDead h)
  have D := Lib.hid (kis n h)
  cases hd : d.dead
  · rw [hd] at C
    by_cases hi : isIn d n = true
    · rw [hi] at D
      have hn : 0 ≤ n ∧ n < d.safe.length := by simpa [isIn] using hi
      obtain ⟨k, rfl⟩ := Int.eq_ofNat_of_zero_le hn.1
      have hk : k < d.safe.length := by omega
      have hr : dread d k = ((latest d.pend k).getD (d.safe.getD k []), 0) := by simp [dread, hd, hi]
      rw [hr]
      obtain ⟨g, c, c0, _, cg⟩ := h.safeAt k hk
      obtain ⟨sa, cs, ap, cp, _, c1, c2, c3, c4, c5, hf, hB⟩ := h.cells
      have hlen := h.1.few
      obtain ⟨_, _, _, _, _, _, _, _, hm⟩ := h
      have hlk := run_smap_look hm k (by omega)
      clear c1 c3 c4 c5 hf hB hr hi hm
      generalize d.safe.getD k [] = x at *
      cases hl : latest d.pend k with
      | none =>
        rw [hl] at hlk
        simp only [Option.getD_none, Option.isSome_none] at hlk
        clear hl
        go_enter Tryd.func29, Tryd.ntmps29
        go_wp2_with (first | (go_at_call 46; refine C.out.mono ?_; rintro e w' ⟨rfl, rfl⟩) | (go_at_call 54; refine D.out.mono ?_; rintro e w' ⟨rfl, rfl⟩))
        go_ret2
        exact ⟨rfl, rfl⟩
      | some y =>
        rw [hl] at hlk
        simp only [Option.getD_some, Option.isSome_some] at hlk
        clear hl
        go_enter Tryd.func29, Tryd.ntmps29
        go_wp2_with (first | (go_at_call 46; refine C.out.mono ?_; rintro e w' ⟨rfl, rfl⟩) | (go_at_call 54; refine D.out.mono ?_; rintro e w' ⟨rfl, rfl⟩))
        go_ret2
        exact ⟨rfl, rfl⟩
    · have hi' : isIn d n = false := by simpa using hi
      rw [hi'] at D
      have hr : dread d n = ([], 12) := by simp [dread, hd, hi']
      rw [hr]
      clear hr hi hi' h
      go_enter Tryd.func29, Tryd.ntmps29
      go_wp2_with (first | (go_at_call 46; refine C.out.mono ?_; rintro e w' ⟨rfl, rfl⟩) | (go_at_call 54; refine D.out.mono ?_; rintro e w' ⟨rfl, rfl⟩))
      go_ret2
      exact ⟨rfl, rfl⟩
  · rw [hd] at C
    have hr : dread d n = ([], 10) := by simp [dread, hd]
    rw [hr]
    clear hr h
    go_enter Tryd.func29, Tryd.ntmps29
    go_wp2_with (first | (go_at_call 46; refine C.out.mono ?_; rintro e w' ⟨rfl, rfl⟩))
    go_ret2
    exact ⟨rfl, rfl⟩

/-- What Write does. -/
def dwrite (d : Dk) (n : Int) (s : List UInt8) : Dk × Int :=
  if d.dead then (d, 10) else if isIn d n = false then (d, 12) else if s.length ≠ 64 then (d, 1) else
  if d.stops = true ∧ d.after = 0 then ({ d with dead := true }, 10) else ({ d with after := d.after - 1, pend := d.pend ++ [(n.toNat, s)] }, 0)

/-- The same disk, its small fields turned. -/
theorem DAt.set3 (h : DAt w B rs rp m d) (b : Bool) : DAt (w.setCell ⟨B, 3, none⟩ (.bool b)) B rs rp m { d with stops := b } := by
  have hb' := h.own_ne
  obtain ⟨ok, vs, vp, hrs, hrp, hb, hs, hp, hm⟩ := h
  exact ⟨⟨ok.few, ok.size, ok.pend, ok.after, ok.many⟩, vs, vp, hrs, hrp, by simpa using heap_setCell (i := 3) hb (.bool b), ownsRow_setCell_other hs (by rw [hrs]; exact hb'.1) _, ownsRow_setCell_other hp (by rw [hrp]; exact hb'.2.1) _, hm.chg ((Chg.refl (fun k => k = B) w).setCell (a := ⟨B, 3, none⟩) (fun _ => rfl) _) hb'.2.2⟩
theorem DAt.set4 (h : DAt w B rs rp m d) (n : Nat) (hn : n ≤ 9223372036854775807) : DAt (w.setCell ⟨B, 4, none⟩ (.int .i64 (n : Int))) B rs rp m { d with after := n } := by
  have hb' := h.own_ne
  obtain ⟨ok, vs, vp, hrs, hrp, hb, hs, hp, hm⟩ := h
  exact ⟨⟨ok.few, ok.size, ok.pend, hn, ok.many⟩, vs, vp, hrs, hrp, by simpa using heap_setCell (i := 4) hb (.int .i64 (n : Int)), ownsRow_setCell_other hs (by rw [hrs]; exact hb'.1) _, ownsRow_setCell_other hp (by rw [hrp]; exact hb'.2.1) _, hm.chg ((Chg.refl (fun k => k = B) w).setCell (a := ⟨B, 4, none⟩) (fun _ => rfl) _) hb'.2.2⟩
theorem DAt.set5 (h : DAt w B rs rp m d) (b : Bool) : DAt (w.setCell ⟨B, 5, none⟩ (.bool b)) B rs rp m { d with dead := b } := by
  have hb' := h.own_ne
  obtain ⟨ok, vs, vp, hrs, hrp, hb, hs, hp, hm⟩ := h
  exact ⟨⟨ok.few, ok.size, ok.pend, ok.after, ok.many⟩, vs, vp, hrs, hrp, by simpa using heap_setCell (i := 5) hb (.bool b), ownsRow_setCell_other hs (by rw [hrs]; exact hb'.1) _, ownsRow_setCell_other hp (by rw [hrp]; exact hb'.2.1) _, hm.chg ((Chg.refl (fun k => k = B) w).setCell (a := ⟨B, 5, none⟩) (fun _ => rfl) _) hb'.2.2⟩
theorem Chg.cellB (rs rp : Option Nat) (m : Nat) (w : World) (i : Nat) (v : Value) : Chg (DS B rs rp m) w (w.setCell ⟨B, i, none⟩ v) := (Chg.refl _ w).setCell (a := ⟨B, i, none⟩) (fun _ => .inl rfl) v

theorem DPost.refl (h : DAt w B rs rp m d) : DPost w w B rs rp m d := ⟨rp, h, Chg.refl _ _, .inl rfl⟩

theorem kWrite_no (n : Int) (s : List UInt8) (h : DAt w B rs rp m d) (hd : d.dead = false) (hi : isIn d n = false ∨ s.length ≠ 64) :
    Calls Tryd.prog 35 #[.pointer (some ⟨B, 0, none⟩), .int .i64 n, .string (mk s)] w fun e w' => e = .returned (.int .i64 (dwrite d n s).2) ∧ w = w' := by
  have C := Lib.hid (kDead h)
  have D := Lib.hid (kis n h)
  rw [hd] at C
  have hsz := mk_size s
  cases hin : isIn d n
  · rw [hin] at D
    have hr : (dwrite d n s).2 = 12 := by simp [dwrite, hd, hin]
    rw [hr]
    clear hr hi h hsz hd
    go_enter Tryd.func35, Tryd.ntmps35
    go_wp2_with (first | (go_at_call 46; refine C.out.mono ?_; rintro e w' ⟨rfl, rfl⟩) | (go_at_call 54; refine D.out.mono ?_; rintro e w' ⟨rfl, rfl⟩))
    go_ret
    exact ⟨rfl, rfl⟩
  · rw [hin] at D
    have hs : s.length ≠ 64 := by
      rcases hi with hi | hi
      · rw [hin] at hi; cases hi
      · exact hi
    have hne : (((mk s).size : Int) != 64) = true := by rw [bne_iff_ne]; omega
    have hr : (dwrite d n s).2 = 1 := by simp [dwrite, hd, hin, hs]
    rw [hr]
    clear hr hi h hsz hd hs
    go_enter Tryd.func35, Tryd.ntmps35
    go_wp2_with (first | (go_at_call 46; refine C.out.mono ?_; rintro e w' ⟨rfl, rfl⟩) | (go_at_call 54; refine D.out.mono ?_; rintro e w' ⟨rfl, rfl⟩))
    go_ret
    exact ⟨rfl, rfl⟩

theorem kWrite_dead (n : Int) (s : List UInt8) (h : DAt w B rs rp m d) (hd : d.dead = true) :
    Calls Tryd.prog 35 #[.pointer (some ⟨B, 0, none⟩), .int .i64 n, .string (mk s)] w fun e w' => e = .returned (.int .i64 10) ∧ w = w' := by
  have C := Lib.hid (kDead h)
  rw [hd] at C
  clear hd h
  go_enter Tryd.func35, Tryd.ntmps35
  go_wp2_with (first | (go_at_call 46; refine C.out.mono ?_; rintro e w' ⟨rfl, rfl⟩))
  go_ret
  exact ⟨rfl, rfl⟩

theorem kWrite_stop (n : Int) (s : List UInt8) (h : DAt w B rs rp m d) (hd : d.dead = false) (hin : isIn d n = true) (hs : s.length = 64) (h1 : d.stops = true) (h2 : d.after = 0) :
    Calls Tryd.prog 35 #[.pointer (some ⟨B, 0, none⟩), .int .i64 n, .string (mk s)] w fun e w' => e = .returned (.int .i64 10) ∧ DPost w w' B rs rp m { d with dead := true } := by
  have C := Lib.hid (kDead h)
  have D := Lib.hid (kis n h)
  rw [hd] at C
  rw [hin] at D
  have hsz := mk_size s
  have hne : (((mk s).size : Int) != 64) = false := by rw [bne_eq_false_iff_eq]; omega
  have fin : DPost w (w.setCell ⟨B, 5, none⟩ (.bool true)) B rs rp m { d with dead := true } := ⟨rp, h.set5 true, Chg.cellB _ _ _ _ _ _, .inl rfl⟩
  obtain ⟨sa, cs, ap, cp, c0, c1, c2, c3, c4, c5, hf, hB⟩ := h.cells
  have f5 := hf 5
  rw [h1] at c3
  rw [h2] at c4
  clear hs hsz hin hd h h1 h2 c0 c1 c2 hf hB
  go_enter Tryd.func35, Tryd.ntmps35
  go_wp2_with (first | (go_at_call 46; refine C.out.mono ?_; rintro e w' ⟨rfl, rfl⟩) | (go_at_call 54; refine D.out.mono ?_; rintro e w' ⟨rfl, rfl⟩))
  go_ret
  exact ⟨rfl, fin⟩
end
end Go.Proofs.YtofejnhnnmnfpaaDoor.Dq
/- What Write of a disk leaves where it writes. No condition. -/
namespace Go.Proofs.YtofejnhnnmnfpaaDoor.Dq
set_option maxRecDepth 100000
open Go.RowKit
theorem Tryd.infoWr : (Tryd.prog.info? 90).map (fun i => (i.zero, i.size, i.bytes)) = some (some (.agg #[.int .i64 0, .string ByteArray.empty]), 2, 24) := by kernel_rfl
section
variable {w : World} {B : Nat} {rs rp : Option Nat} {m : Nat} {d : Dk}

/-- Behind the append onto the pending writes, the store, the map's store: the disk. -/
theorem DAt.append {w1 w' : World} {vs vp v' : Value} {k : Nat} {s : List UInt8} {n : Nat} (ok : d.Ok) (hrs : vs.ownBlock = rs) (hrp : vp.ownBlock = rp)
    (hb : w.heap[B]? = some (.cells #[vs, vp, .map (some m), .bool d.stops, .int .i64 (d.after : Int), .bool d.dead] 62 (0, 0)))
    (hs : w.ownsRow 0 9 1 vs d.safe.length (scells d.safe)) (hp : w.ownsRow 0 90 2 vp d.pend.length (pcells d.pend)) (hm : SMap w m d.pend.length (latest d.pend))
    (hc : Chg (fun _ => False) w w1) (hown : w'.ownsRow 0 90 2 v' n (pcells d.pend ++ pcells [(k, s)])) (hgrow : w1.grownBy w' vp.ownBlock) (hrow : v'.ownBlock = vp.ownBlock ∨ ∀ k, v'.ownBlock = some k → w1.heap.size ≤ k)
    (hk : k < d.safe.length) (hsl : s.length = 64) (hmany : d.pend.length < 1000000) :
    ((∃ ao l c, v' = .slice ao l c) ∧ w'.cell? ⟨B, 1, none⟩ = some vp ∧ w'.cell? ⟨B, 2, none⟩ = some (.map (some m)) ∧ w'.frozen? ⟨B, 1, none⟩ = false ∧ B < w'.heap.size) ∧
    SMap (w'.setCell ⟨B, 1, none⟩ v') m d.pend.length (latest d.pend) ∧
    ∀ w2, SMap w2 m (d.pend.length + 1) (fun j => if j = k then some s else latest d.pend j) → (w'.setCell ⟨B, 1, none⟩ v').grownBy w2 (some m) → DPost w w2 B rs rp m { d with pend := d.pend ++ [(k, s)] } := by
  have hD : DAt w B rs rp m d := ⟨ok, vs, vp, hrs, hrp, hb, hs, hp, hm⟩
  have hne := hD.own_ne
  have hne2 := hD.rows_ne
  subst hrs; subst hrp
  have hB := lt_of hb
  have c1 : Chg (fun j => vp.ownBlock = some j) w w' := (hc.mono (fun _ _ h => h.elim)).grown hgrow (fun j _ h => h)
  have hb' := c1.heap hb hne.2.1
  have hs' := c1.row hs (fun j hj => hne2.1 j hj)
  have hm' := hm.chg c1 hne2.2.2
  have hv' : v'.ownBlock ≠ some B := by
    intro e
    obtain ⟨cur, hcur⟩ := own_block hown e
    rw [hb'] at hcur; simp at hcur
  have hvm : v'.ownBlock ≠ some m := by
    intro e
    obtain ⟨cur, hcur⟩ := own_block hown e
    obtain ⟨es, cl, hmb⟩ := hm'.block
    rw [hmb] at hcur; simp at hcur
  have hvs : ∀ j, vs.ownBlock = some j → v'.ownBlock ≠ some j := by
    intro j e e'
    obtain ⟨cur, hcur⟩ := own_block hown e'
    obtain ⟨cur', hcur'⟩ := own_block hs' e
    rw [hcur] at hcur'; simp at hcur'
  obtain ⟨ao, l, c, hform, hln⟩ := own_form hown
  have c2 : Chg (fun j => vp.ownBlock = some j ∨ j = B) w (w'.setCell ⟨B, 1, none⟩ v') := (c1.mono (fun _ _ h => .inl h)).setCell (a := ⟨B, 1, none⟩) (fun _ => .inr rfl) v'
  have hm2 : SMap (w'.setCell ⟨B, 1, none⟩ v') m d.pend.length (latest d.pend) := hm.chg c2 (fun h => by rcases h with h | h; exact hne2.2.2 h; exact hne.2.2 h)
  refine ⟨⟨⟨ao, l, c, hform⟩, cell_of hb' rfl, cell_of hb' rfl, free_of hb', lt_of hb'⟩, hm2, fun w2 hs2 hg2 => ?_⟩
  have c3 : Chg (fun j => j = m) (w'.setCell ⟨B, 1, none⟩ v') w2 := (Chg.refl _ _).grown hg2 (fun j _ h => by cases h; rfl)
  have hn : n = d.pend.length + 1 := by
    have := hown.1
    simp only [List.length_append, pcells_length, List.length_singleton] at this
    omega
  subst hn
  refine ⟨v'.ownBlock, ⟨⟨ok.few, ok.size, ?_, ok.after, by simp; omega⟩, vs, v', rfl, rfl, ?_, ?_, ?_, ?_⟩, ?_, ?_⟩
  · intro p hp'
    rcases List.mem_append.1 hp' with hp' | hp'
    · exact ok.pend p hp'
    · have := List.mem_singleton.1 hp'
      subst this
      exact ⟨hk, hsl⟩
  · have := heap_setCell (i := 1) hb' v'
    have := c3.heap this (fun e => hne.2.2 e.symm)
    simpa using this
  · exact c3.row (ownsRow_setCell_other hs' hne.1 v') (fun j hj e => hne2.2.1 (by rw [hj, e]))
  · rw [List.length_append, pcells_append]
    exact c3.row (ownsRow_setCell_other hown hv' v') (fun j hj e => hvm (by rw [hj, e]))
  · rw [List.length_append]
    exact hs2.congr (fun j => by simp only; rw [latest_snoc])
  · exact (c2.mono (fun j _ h => by rcases h with h | h; exact .inr (.inr (.inl h)); exact .inl h)).trans c3 (fun j _ e => .inr (.inr (.inr e)))
  · rcases hrow with h | h
    · exact .inl h
    · exact .inr fun j hj => Nat.le_trans hc.size (h j hj)

theorem DPost.trans {w1 w2 : World} {rp1 : Option Nat} {d1 d2 : Dk} (_a : DAt w1 B rs rp1 m d1) (c : Chg (DS B rs rp m) w w1) (r : RowOk w rp rp1) (h : DPost w1 w2 B rs rp1 m d2) : DPost w w2 B rs rp m d2 := by
  obtain ⟨rp2, a2, c2, r2⟩ := h
  refine ⟨rp2, a2, c.trans c2 ?_, ?_⟩
  · intro k hk hs
    rcases hs with hs | hs | hs | hs
    · exact .inl hs
    · exact .inr (.inl hs)
    · rcases r with r | r
      · exact .inr (.inr (.inl (r ▸ hs)))
      · have := r k hs; omega
    · exact .inr (.inr (.inr hs))
  · rcases r2 with rfl | r2
    · exact r
    · exact .inr fun k hk => Nat.le_trans c.size (r2 k hk)

theorem new_two (w : World) (a b : Value) (b' : Nat) {t : TypeId} (h : b' = w.heap.size) : ∀ j u, [a, b][j]? = some u → (w.alloc (.cells #[a, b] t)).cell? ((⟨b', 0, none⟩ : Addr).add j) = some u := by
  intro j u hj
  subst h
  rw [Addr.add_lit, Nat.zero_add]
  exact cell_of (heap_alloc_new w _) (by simpa using hj)

set_option maxHeartbeats 800000 in
theorem kWrite_ok (n : Nat) (s : List UInt8) (h : DAt w B rs rp m d) (hd : d.dead = false) (hin : n < d.safe.length) (hs : s.length = 64) (h1 : ¬ (d.stops = true ∧ d.after = 0)) (hmany : d.pend.length < 1000000) :
    Calls Tryd.prog 35 #[.pointer (some ⟨B, 0, none⟩), .int .i64 n, .string (mk s)] w fun e w' => e = .returned (.int .i64 0) ∧ DPost w w' B rs rp m { d with after := d.after - 1, pend := d.pend ++ [(n, s)] } := by
  obtain ⟨i, hi, hz0, hz1, hz2⟩ := info_parts Tryd.infoWr
  have C := Lib.hid (kDead h)
  have D := Lib.hid (kis n h)
  rw [hd] at C
  have hin' : isIn d n = true := by simp [isIn]; exact hin
  rw [hin'] at D
  have hsz := mk_size s
  have hne : (((mk s).size : Int) != 64) = false := by rw [bne_eq_false_iff_eq]; omega
  obtain ⟨sa, cs, ap, cp, c0, c1, c2, c3, c4, c5, hf, hB⟩ := h.cells
  have f4 := hf 4
  have ha := h.1.after
  have few := h.1.few
  have hg : d.stops = false ∨ ((d.after : Int) == 0) = false := by
    cases hst : d.stops
    · exact .inl rfl
    · right; rw [beq_eq_false_iff_ne]; intro e; exact h1 ⟨hst, by omega⟩
  clear hsz hin' hf c0 c5 h1 hd
  obtain ⟨st, hst⟩ : ∃ st, st = d.stops := ⟨_, rfl⟩
  obtain ⟨af, haf⟩ : ∃ af, af = d.after := ⟨_, rfl⟩
  obtain ⟨q, hq⟩ : ∃ q : Int, q = ((d.after - 1 : Nat) : Int) := ⟨_, rfl⟩
  have h4 : DAt (w.setCell ⟨B, 4, none⟩ (.int .i64 q)) B rs rp m { d with after := d.after - 1 } := by rw [hq]; exact h.set4 (d.after - 1) (by omega)
  have ch4 : Chg (DS B rs rp m) w (w.setCell ⟨B, 4, none⟩ (.int .i64 q)) := Chg.cellB rs rp m w 4 _
  rw [← hst] at c3 hg
  rw [← haf] at c4 hg ha hq
  replace hst := Lib.hid hst
  replace haf := Lib.hid haf
  have hcell4 : ∀ v, (w.setCell ⟨B, 4, none⟩ v).cell? ⟨B, 1, none⟩ = some (.slice ap d.pend.length cp) := fun v => by rw [World.cell?_setCell_other _ _ _ _ (by simp)]; exact c1
  obtain ⟨ok4, vs, vp, hrs, hrp, hb4, hs4, hp4, hm4⟩ := id h4
  replace h4 := Lib.hid h4
  replace ch4 := Lib.hid ch4
  simp only at hb4 hs4 hp4 hm4
  have hvp : vp = .slice ap d.pend.length cp := by
    have e := cell_of (i := 1) hb4 rfl
    rw [hcell4] at e
    exact (Option.some.inj e).symm
  subst hvp
  have hB4 := Lib.hid hb4
  clear hb4 h c1
  have HS4 := Lib.hid hs4
  have HP4 := Lib.hid hp4
  have HM4 := Lib.hid hm4
  clear hs4 hp4 hm4
  cases st
  · by_cases hz : af = 0
    · subst hz
      obtain rfl : q = 0 := by omega
      clear hg hq
      go_enter Tryd.func35, Tryd.ntmps35
      go_wp2_with (first | (go_at_call 46; refine C.out.mono ?_; rintro e w' ⟨rfl, rfl⟩) | (go_at_call 54; refine D.out.mono ?_; rintro e w' ⟨rfl, rfl⟩) | (at_builtin; refine wpList_append_own' rfl (.tmp 47) (.tmp 51) 60 rfl 0 90 i (.agg #[.int .i64 0, .string ByteArray.empty]) 2 24 Tryd.underlying60 hi hz0 hz1 hz2 rfl (by decide) _ _ _ rfl (HP4.out.alloc _) ⟨w.heap.size, 0, none⟩ 1 1 (pcells [(n, s)]) rfl rfl (new_two _ _ _ _ (by simp)) (by intro u hu; simp [pcells] at hu; rcases hu with rfl | rfl <;> rfl) (by unfold maxLen; omega) (by omega) (Nat.zero_le _) ?_; intro v' w' hown hgrow hrow; have z := DAt.append (d := { d with after := d.after - 1 }) ok4 hrs hrp hB4.out HS4.out HP4.out HM4.out ((Chg.refl _ _).alloc _) hown hgrow hrow hin hs hmany; obtain ⟨⟨⟨ao', l', c', rfl⟩, e1, e2, e3, e4⟩, hmap, hfin⟩ := z; have HMAP := Lib.hid hmap; have HFIN := Lib.hid hfin; clear hown hgrow hrow hmap hfin) | (at_mapUpdate; refine wpList_smap_put rfl (.tmp 58) (.tmp 59) (.tmp 60) rfl rfl HMAP.out (Nat.lt_of_lt_of_le hmany (by unfold maxLen; omega)) n s rfl rfl (by omega) (by rw [hs]; unfold maxLen; omega) ?_; intro w2 hm2 hg2; have fin := HFIN.out w2 hm2 hg2; clear hm2 hg2))
      go_ret
      exact ⟨rfl, DPost.trans h4.out ch4.out (.inl rfl) fin⟩
    · obtain ⟨k, rfl⟩ : ∃ k, af = k + 1 := ⟨af - 1, by omega⟩
      obtain rfl : q = (k : Int) := by omega
      clear hg hq hz
      go_enter Tryd.func35, Tryd.ntmps35
      go_wp2_with (first | (go_at_call 46; refine C.out.mono ?_; rintro e w' ⟨rfl, rfl⟩) | (go_at_call 54; refine D.out.mono ?_; rintro e w' ⟨rfl, rfl⟩) | (at_builtin; refine wpList_append_own' rfl (.tmp 47) (.tmp 51) 60 rfl 0 90 i (.agg #[.int .i64 0, .string ByteArray.empty]) 2 24 Tryd.underlying60 hi hz0 hz1 hz2 rfl (by decide) _ _ _ rfl (HP4.out.alloc _) ⟨w.heap.size, 0, none⟩ 1 1 (pcells [(n, s)]) rfl rfl (new_two _ _ _ _ (by simp)) (by intro u hu; simp [pcells] at hu; rcases hu with rfl | rfl <;> rfl) (by unfold maxLen; omega) (by omega) (Nat.zero_le _) ?_; intro v' w' hown hgrow hrow; have z := DAt.append (d := { d with after := d.after - 1 }) ok4 hrs hrp hB4.out HS4.out HP4.out HM4.out ((Chg.refl _ _).alloc _) hown hgrow hrow hin hs hmany; obtain ⟨⟨⟨ao', l', c', rfl⟩, e1, e2, e3, e4⟩, hmap, hfin⟩ := z; have HMAP := Lib.hid hmap; have HFIN := Lib.hid hfin; clear hown hgrow hrow hmap hfin) | (at_mapUpdate; refine wpList_smap_put rfl (.tmp 58) (.tmp 59) (.tmp 60) rfl rfl HMAP.out (Nat.lt_of_lt_of_le hmany (by unfold maxLen; omega)) n s rfl rfl (by omega) (by rw [hs]; unfold maxLen; omega) ?_; intro w2 hm2 hg2; have fin := HFIN.out w2 hm2 hg2; clear hm2 hg2))
      go_ret
      exact ⟨rfl, DPost.trans h4.out ch4.out (.inl rfl) fin⟩
  · obtain ⟨k, rfl⟩ : ∃ k, af = k + 1 := ⟨af - 1, by
      rcases hg with hg | hg
      · cases hg
      · rw [beq_eq_false_iff_ne] at hg; omega⟩
    obtain rfl : q = (k : Int) := by omega
    have hg' : (((k + 1 : Nat) : Int) == 0) = false := by rw [beq_eq_false_iff_ne]; omega
    clear hg hq
    go_enter Tryd.func35, Tryd.ntmps35
    go_wp2_with (first | (go_at_call 46; refine C.out.mono ?_; rintro e w' ⟨rfl, rfl⟩) | (go_at_call 54; refine D.out.mono ?_; rintro e w' ⟨rfl, rfl⟩) | (at_builtin; refine wpList_append_own' rfl (.tmp 47) (.tmp 51) 60 rfl 0 90 i (.agg #[.int .i64 0, .string ByteArray.empty]) 2 24 Tryd.underlying60 hi hz0 hz1 hz2 rfl (by decide) _ _ _ rfl (HP4.out.alloc _) ⟨w.heap.size, 0, none⟩ 1 1 (pcells [(n, s)]) rfl rfl (new_two _ _ _ _ (by simp)) (by intro u hu; simp [pcells] at hu; rcases hu with rfl | rfl <;> rfl) (by unfold maxLen; omega) (by omega) (Nat.zero_le _) ?_; intro v' w' hown hgrow hrow; have z := DAt.append (d := { d with after := d.after - 1 }) ok4 hrs hrp hB4.out HS4.out HP4.out HM4.out ((Chg.refl _ _).alloc _) hown hgrow hrow hin hs hmany; obtain ⟨⟨⟨ao', l', c', rfl⟩, e1, e2, e3, e4⟩, hmap, hfin⟩ := z; have HMAP := Lib.hid hmap; have HFIN := Lib.hid hfin; clear hown hgrow hrow hmap hfin) | (at_mapUpdate; refine wpList_smap_put rfl (.tmp 58) (.tmp 59) (.tmp 60) rfl rfl HMAP.out (Nat.lt_of_lt_of_le hmany (by unfold maxLen; omega)) n s rfl rfl (by omega) (by rw [hs]; unfold maxLen; omega) ?_; intro w2 hm2 hg2; have fin := HFIN.out w2 hm2 hg2; clear hm2 hg2))
    go_ret
    exact ⟨rfl, DPost.trans h4.out ch4.out (.inl rfl) fin⟩

theorem kWrite (n : Int) (s : List UInt8) (h : DAt w B rs rp m d) (hmany : d.pend.length < 1000000) :
    Calls Tryd.prog 35 #[.pointer (some ⟨B, 0, none⟩), .int .i64 n, .string (mk s)] w fun e w' => e = .returned (.int .i64 (dwrite d n s).2) ∧ DPost w w' B rs rp m (dwrite d n s).1 := by
  cases hd : d.dead
  · cases hin : isIn d n
    · refine (kWrite_no n s h hd (.inl hin)).mono fun e w' ⟨he, hw⟩ => ⟨he, ?_⟩
      subst hw
      rw [show (dwrite d n s).1 = d by simp [dwrite, hd, hin]]
      exact DPost.refl h
    · by_cases hs : s.length = 64
      · have hn : 0 ≤ n ∧ n < d.safe.length := by simpa [isIn] using hin
        by_cases h1 : d.stops = true ∧ d.after = 0
        · have e1 : dwrite d n s = ({ d with dead := true }, 10) := by simp only [dwrite, hd, hin, hs]; simp [h1]
          rw [e1]
          exact kWrite_stop n s h hd hin hs h1.1 h1.2
        · have e1 : dwrite d n s = ({ d with after := d.after - 1, pend := d.pend ++ [(n.toNat, s)] }, 0) := by simp only [dwrite, hd, hin, hs]; simp [h1]
          rw [e1]
          obtain ⟨k, rfl⟩ := Int.eq_ofNat_of_zero_le hn.1
          exact kWrite_ok k s h hd (by omega) hs h1 hmany
      · refine (kWrite_no n s h hd (.inr hs)).mono fun e w' ⟨he, hw⟩ => ⟨he, ?_⟩
        subst hw
        rw [show (dwrite d n s).1 = d by simp [dwrite, hd, hin, hs]]
        exact DPost.refl h
  · refine (kWrite_dead n s h hd).mono fun e w' ⟨he, hw⟩ => ?_
    subst hw
    rw [show dwrite d n s = (d, 10) by simp [dwrite, hd]]
    exact ⟨he, DPost.refl h⟩
end
end Go.Proofs.YtofejnhnnmnfpaaDoor.Dq
/- What settle of a disk leaves. No condition. -/
namespace Go.Proofs.YtofejnhnnmnfpaaDoor.Dq
set_option maxRecDepth 100000
open Go.RowKit

/-- Writes laid down, one behind the other. -/
def dset (l : List (List UInt8)) (ps : List (Nat × List UInt8)) : List (List UInt8) := ps.foldl (fun l p => l.set p.1 p.2) l
theorem dset_length (ps : List (Nat × List UInt8)) : ∀ l, (dset l ps).length = l.length := by
  induction ps with
  | nil => intro l; rfl
  | cons p ps ih => intro l; rw [dset, List.foldl_cons]; exact (ih _).trans (by simp)
theorem dset_snoc (l : List (List UInt8)) (ps : List (Nat × List UInt8)) (p : Nat × List UInt8) : dset l (ps ++ [p]) = (dset l ps).set p.1 p.2 := by simp [dset]
theorem dset_mem (ps : List (Nat × List UInt8)) (P : List UInt8 → Prop) (hp : ∀ p ∈ ps, P p.2) : ∀ l, (∀ s ∈ l, P s) → ∀ s ∈ dset l ps, P s := by
  induction ps with
  | nil => intro l h; exact h
  | cons p ps ih =>
    intro l h
    rw [dset, List.foldl_cons]
    refine ih (fun q hq => hp q (List.mem_cons_of_mem _ hq)) _ fun s hs => ?_
    rcases List.mem_or_eq_of_mem_set hs with hs | hs
    · exact h s hs
    · rw [hs]; exact hp p List.mem_cons_self

section
variable {w : World} {B : Nat} {rs rp : Option Nat} {m : Nat} {d : Dk}
/-- The disk with one sector laid down. -/
theorem DAt.lay (h : DAt w B rs rp m d) (n : Nat) (s : List UInt8) (hn : n < d.safe.length) (hs : s.length = 64) :
    ∃ g c u, w.cell? ⟨B, 0, none⟩ = some (.slice (some ⟨g, 0, none⟩) d.safe.length c) ∧ rs = some g ∧ g < w.heap.size ∧ B < w.heap.size ∧ w.cell? ⟨g, n, none⟩ = some u ∧ w.frozen? ⟨g, n, none⟩ = false ∧
      ∀ w1, Chg (fun _ => False) w w1 → DAt (w1.setCell ⟨g, n, none⟩ (.string (mk s))) B rs rp m { d with safe := d.safe.set n s } ∧ Chg (fun j => rs = some j) w (w1.setCell ⟨g, n, none⟩ (.string (mk s))) := by
  have hne := h.own_ne
  have hne2 := h.rows_ne
  obtain ⟨g, c, c0, hg, cg⟩ := h.safeAt n hn
  obtain ⟨ok, vs, vp, hrs, hrp, hb, hs', hp, hm⟩ := h
  have hvs : vs = .slice (some ⟨g, 0, none⟩) d.safe.length c := by
    have e := cell_of (i := 0) hb rfl
    rw [c0] at e
    exact (Option.some.inj e).symm
  subst hvs
  refine ⟨g, c, _, c0, hg, World.block_lt_of_cell? w _ cg, lt_of hb, cg, hs'.frozenAt n, fun w1 hc => ?_⟩
  have hst := (hc.row hs' (fun _ _ h => h)).stored n (.string (mk s))
  have hgB : g ≠ B := fun e => hne.1 (by rw [hg, e])
  have hgm : g ≠ m := fun e => hne2.2.1 (by rw [hg, e])
  have c2 : Chg (fun k => k = g) w (w1.setCell ⟨g, n, none⟩ (.string (mk s))) := Chg.setCell (S := fun k => k = g) (hc.mono (fun _ _ h => h.elim)) (a := ⟨g, n, none⟩) (fun _ => rfl) _
  refine ⟨⟨⟨by simpa using ok.few, ?_, by simpa using ok.pend, ok.after, ok.many⟩, _, vp, hrs, hrp, ?_, ?_, c2.row hp (fun k hk e => hne2.1 g hg (by rw [← hrp, hk, e])), hm.chg c2 (fun e => hgm e.symm)⟩, c2.mono (fun j _ e => by rw [hg, e])⟩
  · intro t ht
    rcases List.mem_or_eq_of_mem_set ht with ht | ht
    · exact ok.size t ht
    · rw [ht]; exact hs
  · have := c2.heap hb (fun e => hgB e.symm)
    simpa using this
  · simp only [List.length_set]
    rw [show scells (d.safe.set n s) = (scells d.safe).set n (.string (mk s)) by simp [scells, List.map_set]]
    exact hst.1

/-- Nothing is pending any more: the slice's store, then the map cleared. -/
theorem DAt.cleared (h : DAt w B rs rp m d) : SMap (w.setCell ⟨B, 1, none⟩ (.slice none 0 0)) m d.pend.length (latest d.pend) ∧
    ∀ w2, SMap w2 m 0 (fun _ => none) → (w.setCell ⟨B, 1, none⟩ (.slice none 0 0)).grownBy w2 (some m) → DAt w2 B rs none m { d with pend := [] } ∧ Chg (fun j => j = B ∨ j = m) w w2 := by
  have hne := h.own_ne
  have hne2 := h.rows_ne
  obtain ⟨ok, vs, vp, hrs, hrp, hb, hs, hp, hm⟩ := h
  have c1 : Chg (fun j => j = B) w (w.setCell ⟨B, 1, none⟩ (.slice none 0 0)) := Chg.setCell (S := fun j => j = B) (Chg.refl _ _) (a := ⟨B, 1, none⟩) (fun _ => rfl) _
  refine ⟨hm.chg c1 hne.2.2, fun w2 hm2 hg => ?_⟩
  have c2 : Chg (fun j => j = m) (w.setCell ⟨B, 1, none⟩ (.slice none 0 0)) w2 := (Chg.refl _ _).grown hg (fun j _ e => by cases e; rfl)
  have c3 : Chg (fun j => j = B ∨ j = m) w w2 := (c1.mono (fun _ _ e => .inl e)).trans c2 (fun _ _ e => .inr e)
  refine ⟨⟨⟨ok.few, ok.size, by simp, ok.after, by simp⟩, vs, .slice none 0 0, hrs, rfl, ?_, c3.row hs (fun k hk e => ?_), World.ownsRow_nil _ _ _ _, hm2.congr (fun _ => rfl)⟩, c3⟩
  · have := c2.heap (heap_setCell (i := 1) hb (.slice none 0 0)) (fun e => hne.2.2 e.symm)
    simpa using this
  · rcases e with e | e
    · exact hne.1 (by rw [← hrs, hk, e])
    · exact hne2.2.1 (by rw [← hrs, hk, e])

set_option maxHeartbeats 800000 in
theorem ksettle (vl : Value) (ps : List (Nat × List UInt8)) (h : DAt w B rs rp m d) (hl : w.ownsRow 0 90 2 vl ps.length (pcells ps)) (hps : ∀ p ∈ ps, p.1 < d.safe.length ∧ p.2.length = 64) (hfew : ps.length ≤ 1000000) :
    Calls Tryd.prog 47 #[.pointer (some ⟨B, 0, none⟩), vl] w fun e w' => e = .returned (.tuple #[]) ∧ DAt w' B rs none m { d with safe := dset d.safe ps, pend := [] } ∧ Chg (DS B rs none m) w w' := by
  obtain ⟨al, ll, cl, rfl, rfl⟩ := own_form hl
  go_enter Tryd.func47, Tryd.ntmps47
  go_wp2
  go_loopw [8] (fun i wr => ∃ k : Nat, k ≤ ps.length ∧ i = .int .i64 k ∧ DAt wr B rs rp m { d with safe := dset d.safe (ps.take k) } ∧ wr.ownsRow 0 90 2 (.slice al ps.length cl) ps.length (pcells ps) ∧ Chg (fun j => rs = some j) w wr) (fun i _ => ps.length - (intOf i).toNat)
  case atStart => exact ⟨0, Nat.zero_le _, rfl, h, hl, Chg.refl _ _⟩
  case round =>
    obtain ⟨k, hk, rfl, hd, ho, hc⟩ := hrel
    by_cases hlt : k < ps.length
    · obtain ⟨g, e0, e1, hal⟩ : ∃ g, wr.cell? ⟨g, k * 2, none⟩ = some (.int .i64 ((ps[k]).1 : Int)) ∧ wr.cell? ⟨g, k * 2 + 1, none⟩ = some (.string (mk (ps[k]).2)) ∧ al = some ⟨g, 0, none⟩ := by
        have hcells := fun (g : Nat) => ho.cells (g := g)
        rcases ho.2 with ⟨h0, h1⟩ | ⟨g, cap, cur, hv, _⟩
        · omega
        · simp only [Value.slice.injEq, true_and] at hv
          obtain ⟨rfl, rfl⟩ := hv
          have hp := pcells_at ps k hlt
          have a0 := hcells g (by simp [Value.ownBlock]) (2 * k) _ hp.1
          have a1 := hcells g (by simp [Value.ownBlock]) (2 * k + 1) _ hp.2
          rw [Addr.add_lit, Nat.zero_add, Nat.mul_comm] at a0 a1
          exact ⟨g, a0, a1, rfl⟩
      subst hal
      obtain ⟨p, hp⟩ : ∃ p, p = ps[k] := ⟨_, rfl⟩
      rw [← hp] at e0 e1
      have HP := Lib.hid hp
      clear hp
      have hpin : p.1 < d.safe.length ∧ p.2.length = 64 := hps p (by rw [HP.out]; exact List.getElem_mem hlt)
      obtain ⟨gs, c, u, c0, hrs, hgs, hB, ct, ft, hlay⟩ := hd.lay p.1 p.2 (by rw [dset_length]; exact hpin.1) hpin.2
      simp only [dset_length] at c0
      have hin : p.1 < d.safe.length := hpin.1
      have HL := Lib.hid hlay
      clear hlay hpin
      go_wp2
      go_region
      have hw1 := HL.out (wr.alloc (.cells #[.int .i64 (p.1 : Int), .string (mk p.2)] 90)).drew ((Chg.refl _ _).alloc _).drew
      obtain ⟨hd2, hc2⟩ := hw1
      have ho2 := hc2.row ho (fun j hj e => by
        obtain ⟨cur, h1⟩ := own_block ho hj
        obtain ⟨_, vs, _, hvs, _, _, hs, _⟩ := hd
        rw [← hvs] at e
        obtain ⟨cur', h2⟩ := own_block hs e
        rw [h1] at h2; simp at h2)
      have hsn : dset d.safe (ps.take (k + 1)) = (dset d.safe (ps.take k)).set p.1 p.2 := by rw [List.take_succ_eq_append_getElem hlt, dset_snoc, HP.out]
      have hrel : DAt ((wr.alloc (.cells #[.int .i64 (p.1 : Int), .string (mk p.2)] 90)).drew.setCell ⟨gs, p.1, none⟩ (.string (mk p.2))) B rs rp m { d with safe := dset d.safe (ps.take (k + 1)) } := by rw [hsn]; exact hd2
      have hcc := hc.trans hc2 (fun _ _ h => h)
      have heq : (wr.alloc (.cells #[.int .i64 (p.1 : Int), .string (mk p.2)] 90)).drew.setCell ⟨gs, p.1, none⟩ (.string (mk p.2)) = ((wr.setCell ⟨gs, p.1, none⟩ (.string (mk p.2))).alloc (.cells #[.int .i64 (p.1 : Int), .string (mk p.2)] 90)).drew := by
        rw [World.setCell_drew, World.setCell_alloc_past _ _ _ _ hgs]
      rw [heq] at hrel ho2 hcc
      clear heq
      replace hrel := Lib.hid hrel
      replace ho2 := Lib.hid ho2
      replace hcc := Lib.hid hcc
      clear hd2 hc2 hsn
      go_wp2
      go_roundw
      case rel =>
        exact ⟨k + 1, hlt, by go_num, hrel.out, ho2.out, hcc.out⟩
      case measure => simp [intOf]; omega
    · have e : k = ps.length := by omega
      subst e
      rw [List.take_length] at hd
      obtain ⟨sa, cs, ap, cp, c0, c1, c2, c3, c4, c5, hf, hB⟩ := hd.cells
      have f1 := hf 1
      clear hf c0 c3 c4 c5
      obtain ⟨hm, hfin⟩ := hd.cleared
      have HM := Lib.hid hm
      have HF := Lib.hid hfin
      have HC := Lib.hid hc
      clear hm hfin hc ho hd
      go_wp2_with (with_reducible refine wpList_smap_clear rfl (.tmp 28) rfl rfl HM.out ?_; intro w2 hm2 hg2; have fin := HF.out w2 hm2 hg2; clear hm2 hg2)
      go_end0
      refine ⟨rfl, fin.1, (HC.out.mono (fun j _ e => .inr (.inl e))).trans fin.2 (fun j _ e => by rcases e with e | e; exact .inl e; exact .inr (.inr (.inr e)))⟩
end
end Go.Proofs.YtofejnhnnmnfpaaDoor.Dq
