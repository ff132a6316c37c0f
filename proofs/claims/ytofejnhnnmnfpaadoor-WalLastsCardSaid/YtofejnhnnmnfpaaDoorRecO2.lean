/- Records that came in. No condition. -/
import Derived.Test.YtofejnhnnmnfpaaDoorRecO
namespace Go.Proofs.YtofejnhnnmnfpaaDoor.Rc
set_option maxRecDepth 100000
open Go.ChangeShapes Go.WideShapes Go.ChangeAt Go.RowKit Go.Deep
instance : Inhabited Rec := ⟨⟨0, 0, 0, 0, [], false, ⟨[], [], 0, 0⟩, [], [], [], []⟩⟩
theorem weightsAll_mem {H : Type} {P : Program} {e : TypeId} : ∀ {l : List (DataW H)} {d : DataW H}, d ∈ l → ∀ n ∈ d.weights P e, n ∈ DataW.weightsAll P e l
  | d' :: l, d, h, n, hn => by
    rw [DataW.weightsAll, List.mem_append]
    rcases List.mem_cons.1 h with rfl | h
    · exact .inl hn
    · exact .inr (weightsAll_mem h n hn)
/-- One of them: its cells, its rows. -/
def RecRow (w : World) (a : Option Addr) (j : Nat) (r : Rec) : Prop := ∃ b o vp vt vx vd, a = some ⟨b, o, none⟩ ∧
  (∀ i (h : i < 14), w.cell? ⟨b, o + j * 14 + i, none⟩ = some (([.int .i64 r.kind, .int .i64 r.tx, .int .i64 r.prev, .int .i64 r.next, .string (mk r.key), .bool r.had, .string (mk r.old.key), .string (mk r.old.val), .int .i64 r.old.blob, .int .i64 r.old.size, vp, vt, vx, vd] : List Value)[i])) ∧
  RecAt w (.agg #[.int .i64 r.kind, .int .i64 r.tx, .int .i64 r.prev, .int .i64 r.next, .string (mk r.key), .bool r.had, .string (mk r.old.key), .string (mk r.old.val), .int .i64 r.old.blob, .int .i64 r.old.size, vp, vt, vx, vd]) vp vt vx vd r ∧
  r.pats.length ≤ 140737488351232 ∧ r.txs.length ≤ 140737488351232 ∧ r.pages.length ≤ 9223372036854775807 ∧ ∀ t ∈ r.txs, t.pages.length ≤ 9223372036854775807
def IsRecs (w : World) (v : Value) (l : List Rec) : Prop := ∃ a c, v = .slice a l.length c ∧ l.length ≤ 140737488351232 ∧ ∀ j (h : j < l.length), RecRow w a j l[j]
theorem open_recs {H : Type} {enc : TypeId × Value → H} {W : World} {base : Nat} {v : Value} {d : DataW H} {p : List MemPlace} {ts : List TypeId} {ds : List (DataW H)} {j : Nat}
    (hsz : (DataW.weightsEach Tryd.prog ts ds).all (· ≤ reachBytes) = true) (ht : ts[j]? = some 45) (hd : ds[j]? = some d)
    (hval : Value.okWide Tryd.prog W .any base 45 v) (h : DataW.Trod enc Tryd.prog W 0 (fun _ => true) true 45 v d p) : ∃ l, IsRecs W v l := by
  obtain ⟨a0, len, cap, rfl⟩ := okWide_slice Tryd.underlying45 hval
  obtain ⟨fuel, hf⟩ := h
  rcases open_slice Tryd.underlying45 hf with ⟨hcs, _⟩ | ⟨a, len', cap', m, n, D, Pl, hcs, _, hl, hm, hmm, hxx, hel⟩
  · simp [Value.cells] at hcs
    obtain ⟨rfl, rfl, rfl⟩ := hcs
    exact ⟨[], none, 0, rfl, by simp, fun j h => by simp at h⟩
  · simp [Value.cells] at hcs
    obtain ⟨rfl, rfl, rfl⟩ := hcs
    have hc : (Tryd.prog).cellsOf 37 = 14 := by kernel_rfl
    have hby : 0 < (Tryd.prog).bytesOf 37 := of_decide_eq_true (by kernel_rfl)
    have hdd : d = .slice ((List.range len).map D) ((List.range (m - len)).map fun j => D (len + j)) := congrArg Prod.fst hxx
    have hw : ∀ n ∈ d.weights Tryd.prog 45, n ≤ reachBytes := fun n hn => by simpa using List.all_eq_true.1 hsz _ (DataW.weights_mem_each ht hd n hn)
    subst hdd
    have hlb : len ≤ 140737488351232 := by
      have := hw ((((List.range len).map D).length + ((List.range (m - len)).map fun j => D (len + j)).length) * (Tryd.prog.bytesOf 37)) (by
        simp only [DataW.weights, Tryd.underlying45, List.mem_cons, List.mem_append]
        exact .inl trivial)
      have h2 : len * 1 ≤ (((List.range len).map D).length + ((List.range (m - len)).map fun j => D (len + j)).length) * (Tryd.prog.bytesOf 37) := Nat.mul_le_mul (by simp) hby
      simp only [reachBytes] at this
      omega
    have hlm : len ≤ m := by rw [hmm]; split <;> omega
    obtain ⟨b, o, sp⟩ := a
    have hsp : 0 < m → sp = none := by
      intro h0
      obtain ⟨cs', h1, h2⟩ := hel 0 h0
      rw [hc] at h1
      obtain ⟨_, hlen, hce⟩ := World.cells?_some h1
      have g0 := hce 0 (by omega)
      rw [List.getElem?_eq_getElem (by omega)] at g0
      have := World.cell?_spot g0
      simpa [Addr.add] using this
    have hone : ∀ i, i < len → ∃ r : Rec, RecRow W (some ⟨b, o, sp⟩) i r := by
      intro i hi
      obtain rfl := hsp (by omega)
      obtain ⟨cs', h1, h2⟩ := hel i (by omega)
      rw [hc, Addr.add_lit] at h1
      obtain ⟨_, hlen, hce⟩ := World.cells?_some h1
      obtain ⟨r, ⟨⟨vp, vt, vx, vd, hR⟩, l1, l2⟩, l3, l4⟩ := rec_in h2 (fun n hn => hw n (by
        simp only [DataW.weights, Tryd.underlying45, List.mem_cons, List.mem_append]
        exact .inr (.inl (weightsAll_mem (List.mem_map.2 ⟨i, by simpa using hi, rfl⟩) n hn))))
      have e := hR.1
      have e2 : cs' = [.int .i64 r.kind, .int .i64 r.tx, .int .i64 r.prev, .int .i64 r.next, .string (mk r.key), .bool r.had, .string (mk r.old.key), .string (mk r.old.val), .int .i64 r.old.blob, .int .i64 r.old.size, vp, vt, vx, vd] := by
        simp only [Value.agg.injEq] at e
        have := congrArg Array.toList e
        simpa using this
      subst e2
      refine ⟨r, b, o, vp, vt, vx, vd, rfl, fun k hk => ?_, hR, l1, l2, l3, l4⟩
      have := hce k (by simpa using hk)
      rw [Addr.add_lit, List.getElem?_eq_getElem (by simpa using hk)] at this
      exact this
    obtain ⟨f, hf'⟩ := choose_lt (α := Rec) hone
    refine ⟨(List.range len).map f, some ⟨b, o, sp⟩, cap, by simp, by simpa using hlb, fun j hj => ?_⟩
    have hj' : j < len := by simpa using hj
    have ej : ((List.range len).map f)[j] = f j := by simp
    rw [ej]
    exact hf' j hj'
end Go.Proofs.YtofejnhnnmnfpaaDoor.Rc
