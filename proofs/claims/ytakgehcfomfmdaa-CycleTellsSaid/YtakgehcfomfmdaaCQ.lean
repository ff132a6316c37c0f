/- A row of numbers of the call's own that is taken from at the front and appended to. No condition. -/
import Derived.Test.YtakgehcfomfmdaaCMem
import Derived.Test.YtakgehcfomfmdaaBkM
namespace Go.Proofs.Ytakgehcfomfmdaa
open Go.RowKit

/-- The row: v, in a block of its own. -/
def QAt (base : Nat) (w : World) (v : Value) (q : List Int) : Prop :=
  ∃ g o cap cur, v = .slice (some ⟨g, o, none⟩) q.length cap ∧ base ≤ g ∧ w.heap[g]? = some (.cells cur 3 (0, 0)) ∧ q.length ≤ cap ∧ o + cap ≤ cur.size ∧ ∀ j (h : j < q.length), cur[o + j]? = some (.int .i64 q[j])
theorem QAt.kept {S : Nat → Prop} {base : Nat} {w w' : World} {v : Value} {q : List Int} (h : QAt base w v q) (hc : Chg S w w') (hn : ∀ k, v.ownBlock = some k → ¬ S k) : QAt base w' v q := by
  obtain ⟨g, o, cap, cur, rfl, h1, h2, h3⟩ := h
  exact ⟨g, o, cap, cur, rfl, h1, hc.heap h2 (hn g rfl), h3⟩
theorem QAt.lt {base : Nat} {w : World} {v : Value} {q : List Int} (h : QAt base w v q) {k : Nat} (hk : v.ownBlock = some k) : base ≤ k ∧ k < w.heap.size := by
  obtain ⟨g, o, cap, cur, rfl, h1, h2, _⟩ := h
  cases hk
  exact ⟨h1, lt_of h2⟩
theorem QAt.form {base : Nat} {w : World} {v : Value} {q : List Int} (h : QAt base w v q) : ∃ g o cap, v = .slice (some ⟨g, o, none⟩) q.length cap ∧ q.length ≤ cap ∧ ∀ j (h : j < q.length), w.cell? ⟨g, o + j, none⟩ = some (.int .i64 q[j]) := by
  obtain ⟨g, o, cap, cur, rfl, h1, h2, h3, h4, h5⟩ := h
  exact ⟨g, o, cap, rfl, h3, fun j hj => cell_of h2 (h5 j hj)⟩
/-- The first one is taken. -/
theorem QAt.pop {base : Nat} {w : World} {g o cap : Nat} {x : Int} {q : List Int} (h : QAt base w (.slice (some ⟨g, o, none⟩) (q.length + 1) cap) (x :: q)) (o' : Nat) (ho : o' = if cap = 1 then o else o + 1) : QAt base w (.slice (some ⟨g, o', none⟩) q.length (cap - 1)) q := by
  obtain ⟨g', o2, cap', cur, e, h1, h2, h3, h4, h5⟩ := h
  simp only [Value.slice.injEq, Option.some.injEq, Addr.mk.injEq, List.length_cons] at e h3
  obtain ⟨⟨rfl, rfl, _⟩, _, rfl⟩ := e
  refine ⟨g, o', cap - 1, cur, rfl, h1, h2, by omega, by split at ho <;> omega, fun j hj => ?_⟩
  have hc : cap ≠ 1 := by omega
  rw [ho, if_neg hc, Nat.add_assoc, Nat.add_comm 1 j]
  have := h5 (j + 1) (by simp; omega)
  simpa using this
theorem run_push {P : Program} (w : World) (t ty e : TypeId) (i : TypeInfo) (ht : P.underlying t = some (.slice e)) (hi : P.info? e = some i) (h1 : i.size = 1)
    (g o n cap : Nat) (cur : Array Value) (hg : w.heap[g]? = some (.cells cur e (0, 0))) (a : Addr) (c : Nat) (u : Value) (hu : w.cell? a = some u) (ho : u.oneCell' = true) (hroom : n + 1 ≤ cap) (hfit : o + n + 1 ≤ cur.size) :
    (Builtin.append_ #[t, t] ty #[.slice (some ⟨g, o, none⟩) n cap, .slice (some a) 1 c]).run P w = .ok (.slice (some ⟨g, o, none⟩) (n + 1) cap) (w.setRow g (cur.toList.take (o + n) ++ [u] ++ cur.toList.drop (o + n + 1)).toArray) := by
  have hnews : ∀ j x, [u][j]? = some x → w.cell? (a.add j) = some x := fun j x hj => by
    match j, hj with
    | 0, hj =>
      cases hj
      have : a.add 0 = a := by cases a; rfl
      rw [this]; exact hu
    | k + 1, hj => simp at hj
  have hf := run_firstCells_some (P := P) w 1 1 a 1 c [u] (by simp) hnews
  have hst := run_storeCells_at P g (o + n) e [u] 0 cur w hg (by simpa using hfit) (fun x hx => by rw [List.mem_singleton.1 hx]; exact ho)
  simp only [Nat.add_zero] at hst
  simp [Builtin.append_, run_underlying ht, sizeOf, typeInfo, hi, h1, Builtin.lenOf, hroom, hf, Addr.add_lit, hst]
theorem QAt.run_push {base : Nat} {w : World} {v : Value} {q : List Int} (h : QAt base w v q) (ty : TypeId) (ii : TypeInfo) (hi : Try.prog.info? 3 = some ii) (hz : ii.zero = some (.int .i64 0)) (h1 : ii.size = 1) (h2 : ii.bytes = 8) (a : Addr) (c : Nat) (x : Int) (hx : w.cell? a = some (.int .i64 x)) (hq : q.length ≤ 1000000) (hb : base ≤ w.heap.size) :
    ∃ v' w', (Builtin.append_ #[25, 25] ty #[v, .slice (some a) 1 c]).run Try.prog w = .ok v' w' ∧ QAt base w' v' (q ++ [x]) ∧ w.grownBy w' v.ownBlock ∧ (v'.ownBlock = v.ownBlock ∨ ∀ k, v'.ownBlock = some k → w.heap.size ≤ k) := by
  obtain ⟨g, o, cap, cur, rfl, h3, h4, h5, h6, h7⟩ := h
  have hcs : ∀ j u, [Value.int .i64 x][j]? = some u → w.cell? (a.add j) = some u := fun j u hj => by
    match j, hj with
    | 0, hj =>
      cases hj
      have : a.add 0 = a := by cases a; rfl
      rw [this]; exact hx
    | k + 1, hj => simp at hj
  by_cases hroom : q.length + 1 ≤ cap
  · have hr := Go.Proofs.Ytakgehcfomfmdaa.run_push (P := Try.prog) w 25 ty 3 ii Try.underlying25 hi h1 g o q.length cap cur h4 a c (.int .i64 x) hx rfl hroom (by omega)
    refine ⟨_, _, hr, ⟨g, o, cap, _, by simp, h3, setRow_heap w g cur _ 3 _ h4, by simpa using hroom, ?_, fun j hj => ?_⟩, ⟨rfl, rfl, rfl, by simp, fun k _ hk => setRow_other w g k _ (fun e => hk (by simp [Value.ownBlock, e]))⟩, .inl rfl⟩
    · simp only [List.size_toArray, List.length_append, List.length_take, List.length_drop, Array.length_toList, List.length_cons, List.length_nil]
      omega
    · simp only [List.getElem?_toArray]
      have hl : (cur.toList.take (o + q.length)).length = o + q.length := by
        have : cur.toList.length = cur.size := Array.length_toList
        rw [List.length_take]
        omega
      rcases Nat.lt_or_ge j q.length with hlt | hge
      · rw [List.append_assoc, List.getElem?_append_left (by rw [hl]; omega), List.getElem?_take, if_pos (by omega), List.getElem_append_left hlt]
        have := h7 j hlt
        simpa using this
      · have : j = q.length := by simp at hj; omega
        subst this
        rw [List.append_assoc, List.getElem?_append_right (by rw [hl]; omega), hl, Nat.sub_self]
        simp
  · have hol : ∀ j u, (icells q)[j]? = some u → w.cell? ((⟨g, o, none⟩ : Addr).add j) = some u := fun j u hj => by
      have hjl := (List.getElem?_eq_some_iff.1 hj).1
      rw [icells_length] at hjl
      rw [Addr.add_lit]
      have := cell_of h4 (h7 j hjl)
      rw [this]
      simp [icells, hjl] at hj
      rw [← hj]
    obtain ⟨v', w', hr, ho, hg⟩ := run_append_arg_grows (P := Try.prog) w 25 ty 3 ii (.int .i64 0) 1 8 Try.underlying25 hi hz h1 h2 rfl (by decide) ⟨g, o, none⟩ q.length cap (icells q) (by rw [icells_length, Nat.mul_one]) hol a 1 c [.int .i64 x] rfl hcs (by omega) (by unfold maxLen; omega) (by omega)
    refine ⟨v', w', hr, ?_, ⟨hg.os, hg.tape, hg.output, hg.size, fun k hk _ => hg.block k hk (by simp)⟩, .inr (fun k hk => (ho.lt k hk).1)⟩
    rcases ho.2 with ⟨_, e⟩ | ⟨g', cap', cur', rfl, b1, b2, b3, b4, b5, b6⟩
    · omega
    · refine ⟨g', 0, cap', cur', by simp, by omega, b2, by simpa using b3, by omega, fun j hj => ?_⟩
      have hjl : j < (icells (q ++ [x])).length := by rw [icells_length]; exact hj
      have e2 : icells q ++ [Value.int .i64 x] = icells (q ++ [x]) := by rw [icells_append]; rfl
      rw [e2] at b6
      have := congrArg (fun l => l[j]?) b6
      simp only [List.getElem?_take] at this
      rw [if_pos (by simp at hj; omega)] at this
      rw [Nat.zero_add]
      rw [Array.getElem?_toList] at this
      rw [this, icells, List.getElem?_map, List.getElem?_eq_getElem hj]
      rfl
section
variable {ops : Array Oper} {o : Oper} {a : Act} {w : World} {Q : Exit → Act → World → Prop} {rest : List Oper}
theorem wpList_push (hg : o.guard = none) (s x : Operand) (hop : o.op = Op.call { callee := Callee.builtin Builtin.append, args := #[s, x], argTypes := #[25, 25] })
    (base : Nat) (ii : TypeInfo) (hi : Try.prog.info? 3 = some ii) (hz : ii.zero = some (.int .i64 0)) (h1 : ii.size = 1) (h2 : ii.bytes = 8)
    (v : Value) (q : List Int) (hs : a.eval s = v) (h : QAt base w v q) (ad : Addr) (c : Nat) (n : Int) (hx : a.eval x = .slice (some ad) 1 c) (hn : w.cell? ad = some (.int .i64 n)) (hq : q.length ≤ 1000000) (hb : base ≤ w.heap.size)
    (hK : ∀ v' w', QAt base w' v' (q ++ [n]) → w.grownBy w' v.ownBlock → (v'.ownBlock = v.ownBlock ∨ ∀ k, v'.ownBlock = some k → w.heap.size ≤ k) → wpList Try.prog ops Q rest (a.put o.dst v') w') :
    wpList Try.prog ops Q (o :: rest) a w := by
  refine wpList_plain hg fun K hK' => ?_
  obtain ⟨v', w', hrun, r1, r2, r3⟩ := h.run_push o.type ii hi hz h1 h2 ad c n hn hq hb
  unfold Oper.wp execOp
  simp only [hop, resolve, invoke, builtin, Sem.run_bind, Sem.run_pure, Result.andThen_ok, List.map_toArray, List.map_cons, List.map_nil, hs, hx, hrun]
  exact hK' _ _ (hK v' w' r1 r2 r3)
end
end Go.Proofs.Ytakgehcfomfmdaa
