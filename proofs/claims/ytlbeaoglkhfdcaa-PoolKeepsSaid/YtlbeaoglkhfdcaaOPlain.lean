/- A pool of pages as plain data: what its methods answer, over whatever disk and log. No condition. -/
import Derived.Test.YtlbeaoglkhfdcaaBase
namespace Go.Proofs.Ytlbeaoglkhfdcaa

/-- A page in memory. -/
structure Fr where
  b : ByteArray
  d : Bool
  since : Int
  last : Int
  now : Int
  ahead : Int
/-- A pool: its pages, rising; what is in them; the clock. -/
structure PS where
  ks : List Int
  fr : Int → Fr
  ck : Int
/-- A disk and a log: what they answer. -/
structure Dv (σ : Type) where
  rd : σ → Int → σ × ByteArray × Int
  wr : σ → Int → ByteArray → σ × Int
  lg : σ → Int → σ × Int

def PS.upd (s : PS) (n : Int) (f : Fr) : PS := { s with fr := fun x => if x = n then f else s.fr x }
def PS.acc (s : PS) (n : Int) : PS := { s.upd n { s.fr n with ahead := (s.fr n).now, now := s.ck + 1 } with ck := s.ck + 1 }
def insK (n : Int) : List Int → List Int
  | [] => [n]
  | x :: r => if n < x then n :: x :: r else if n = x then x :: r else x :: insK n r
def PS.add (s : PS) (n : Int) (f : Fr) : PS := { s.upd n f with ks := insK n s.ks }
def PS.del (s : PS) (n : Int) : PS := { s with ks := s.ks.filter fun x => decide (x ≠ n) }
def Rise (l : List Int) : Prop := l.Pairwise (· < ·)

theorem mem_insK {n x : Int} : ∀ {l : List Int}, x ∈ insK n l ↔ x = n ∨ x ∈ l
  | [] => by simp [insK]
  | y :: r => by
    unfold insK
    split
    · simp
    · split
      · rename_i h1 h2
        subst h2
        simp
      · simp only [List.mem_cons, mem_insK (l := r)]
        constructor
        · rintro (h | h | h)
          · exact .inr (.inl h)
          · exact .inl h
          · exact .inr (.inr h)
        · rintro (h | h | h)
          · exact .inr (.inl h)
          · exact .inl h
          · exact .inr (.inr h)
theorem rise_insK {n : Int} : ∀ {l : List Int}, Rise l → Rise (insK n l)
  | [], _ => by simp [insK, Rise]
  | y :: r, h => by
    have h1 := List.pairwise_cons.1 h
    unfold insK
    split
    · rename_i h2
      exact List.pairwise_cons.2 ⟨fun z hz => by
        rcases List.mem_cons.1 hz with rfl | hz
        · exact h2
        · have := h1.1 z hz; omega, h⟩
    · split
      · exact h
      · rename_i h2 h3
        refine List.pairwise_cons.2 ⟨fun z hz => ?_, rise_insK h1.2⟩
        rcases mem_insK.1 hz with rfl | hz
        · omega
        · exact h1.1 z hz
theorem len_insK {n : Int} : ∀ {l : List Int}, n ∉ l → (insK n l).length = l.length + 1
  | [], _ => rfl
  | y :: r, h => by
    have hy : n ≠ y := fun e => h (by simp [e])
    have hr : n ∉ r := fun e => h (by simp [e])
    unfold insK
    split
    · simp
    · simp [hy, len_insK hr]
theorem insK_mem {n : Int} : ∀ {l : List Int}, Rise l → n ∈ l → insK n l = l
  | [], _, h => by simp at h
  | y :: r, hR, h => by
    have h1 := List.pairwise_cons.1 hR
    unfold insK
    rcases List.mem_cons.1 h with rfl | h
    · simp
    · have := h1.1 n h
      rw [if_neg (by omega), if_neg (by omega), insK_mem h1.2 h]
theorem Rise.nodup {l : List Int} (h : Rise l) : l.Nodup := h.imp fun h e => by omega
theorem Rise.filter {l : List Int} (h : Rise l) (p : Int → Bool) : Rise (l.filter p) := List.Pairwise.filter p h
theorem len_del {n : Int} : ∀ {l : List Int}, l.Nodup → n ∈ l → (l.filter fun x => decide (x ≠ n)).length + 1 = l.length
  | [], _, h => by simp at h
  | y :: r, hN, h => by
    have h1 := List.nodup_cons.1 hN
    rcases List.mem_cons.1 h with rfl | h
    · have : r.filter (fun x => decide (x ≠ n)) = r := by
        refine List.filter_eq_self.2 fun x hx => ?_
        simp only [decide_eq_true_eq]
        exact fun e => h1.1 (e ▸ hx)
      rw [List.filter_cons_of_neg (by simp), this, List.length_cons]
    · have hy : y ≠ n := fun e => h1.1 (e ▸ h)
      rw [List.filter_cons_of_pos (by simpa using hy), List.length_cons, List.length_cons, len_del h1.2 h]

/-- Which of two goes first. -/
def less (f g : Fr) : Bool := decide (f.ahead < g.ahead) || (decide (f.ahead = g.ahead) && decide (f.now < g.now))
def vicOf (fr : Int → Fr) (l : List Int) (out : Int) : Int := l.foldl (fun out n => if less (fr n) (fr out) = true then n else out) out
def PS.vic (s : PS) : Int := vicOf s.fr s.ks (s.ks.headD 0)
theorem vicOf_mem (fr : Int → Fr) : ∀ (l : List Int) (out : Int), vicOf fr l out = out ∨ vicOf fr l out ∈ l
  | [], out => .inl rfl
  | n :: r, out => by
    unfold vicOf
    rw [List.foldl_cons]
    rcases vicOf_mem fr r (if less (fr n) (fr out) = true then n else out) with h | h
    · unfold vicOf at h
      rw [h]
      split
      · exact .inr (by simp)
      · exact .inl rfl
    · unfold vicOf at h
      exact .inr (List.mem_cons_of_mem _ h)
theorem PS.vic_mem (s : PS) (h : s.ks ≠ []) : s.vic ∈ s.ks := by
  unfold PS.vic
  have h0 : s.ks.headD 0 ∈ s.ks := by
    cases e : s.ks with
    | nil => exact absurd e h
    | cons a r => simp
  rcases vicOf_mem s.fr s.ks (s.ks.headD 0) with e | e
  · rw [e]; exact h0
  · exact e
theorem vicOf_take (fr : Int → Fr) (l : List Int) (out : Int) (k : Nat) (h : k < l.length) : vicOf fr (l.take (k + 1)) out = if less (fr l[k]) (fr (vicOf fr (l.take k) out)) = true then l[k] else vicOf fr (l.take k) out := by
  unfold vicOf
  rw [List.take_succ_eq_append_getElem h, List.foldl_append]
  rfl

section
variable {σ : Type} (D : Dv σ)
def pflush (t : σ) (s : PS) (n : Int) : σ × PS × Int :=
  if n ∈ s.ks ∧ (s.fr n).d = true then
    if (D.lg t (s.fr n).last).2 ≠ 0 then ((D.lg t (s.fr n).last).1, s, (D.lg t (s.fr n).last).2)
    else if (D.wr (D.lg t (s.fr n).last).1 n (s.fr n).b).2 ≠ 0 then ((D.wr (D.lg t (s.fr n).last).1 n (s.fr n).b).1, s, (D.wr (D.lg t (s.fr n).last).1 n (s.fr n).b).2)
    else ((D.wr (D.lg t (s.fr n).last).1 n (s.fr n).b).1, s.upd n { s.fr n with d := false }, 0)
  else (t, s, 0)
def proom (cap : Nat) (t : σ) (s : PS) : σ × PS × Int :=
  if s.ks.length < cap then (t, s, 0)
  else if (pflush D t s s.vic).2.2 ≠ 0 then pflush D t s s.vic
  else ((pflush D t s s.vic).1, (pflush D t s s.vic).2.1.del s.vic, 0)
def pget (cap : Nat) (t : σ) (s : PS) (n : Int) : σ × PS × ByteArray × Int :=
  if n ∈ s.ks then (t, s.acc n, (s.fr n).b, 0)
  else if (D.rd t n).2.2 ≠ 0 then ((D.rd t n).1, s, ByteArray.empty, (D.rd t n).2.2)
  else if (proom D cap (D.rd t n).1 s).2.2 ≠ 0 then ((proom D cap (D.rd t n).1 s).1, (proom D cap (D.rd t n).1 s).2.1, ByteArray.empty, (proom D cap (D.rd t n).1 s).2.2)
  else ((proom D cap (D.rd t n).1 s).1, ((proom D cap (D.rd t n).1 s).2.1.add n ⟨(D.rd t n).2.1, false, 0, 0, 0, 0⟩).acc n, (D.rd t n).2.1, 0)
def Fr.set (f : Fr) (b : ByteArray) (lsn : Int) : Fr := { f with b := b, last := lsn, d := true, since := if f.d = true then f.since else lsn }
def PS.set (s : PS) (n : Int) (b : ByteArray) (lsn : Int) : PS := (s.acc n).upd n (((s.acc n).fr n).set b lsn)
def pset (cap : Nat) (t : σ) (s : PS) (n : Int) (b : ByteArray) (lsn : Int) : σ × PS × Int :=
  if n ∈ s.ks then (t, s.set n b lsn, 0)
  else if (proom D cap t s).2.2 ≠ 0 then proom D cap t s
  else ((proom D cap t s).1, ((proom D cap t s).2.1.add n ⟨ByteArray.empty, false, 0, 0, 0, 0⟩).set n b lsn, 0)
def pallOf : List Int → σ → PS → σ × PS × Int
  | [], t, s => (t, s, 0)
  | n :: r, t, s => if (pflush D t s n).2.2 ≠ 0 then pflush D t s n else pallOf r (pflush D t s n).1 (pflush D t s n).2.1
def pall (t : σ) (s : PS) : σ × PS × Int := pallOf D s.ks t s
def pdirty (s : PS) : List (Int × Int) := (s.ks.filter fun n => (s.fr n).d).map fun n => (n, (s.fr n).since)
def pclean (s : PS) (n : Int) : Bool := !(decide (n ∈ s.ks) && (s.fr n).d)

/-- What is fit. -/
structure PS.Ok (s : PS) : Prop where
  rise : Rise s.ks
  wf : ∀ x ∈ s.ks, (Lit.int .i64 x).wf = true
  few : s.ks.length ≤ 1000000
  ck : 0 ≤ s.ck ∧ s.ck ≤ 1000000
theorem PS.Ok.upd {s : PS} (h : s.Ok) (n : Int) (f : Fr) : (s.upd n f).Ok := ⟨h.rise, h.wf, h.few, h.ck⟩
theorem PS.Ok.del {s : PS} (h : s.Ok) (n : Int) : (s.del n).Ok := ⟨h.rise.filter _, fun x hx => h.wf x (List.mem_filter.1 hx).1, Nat.le_trans (List.length_filter_le _ _) h.few, h.ck⟩
theorem pflush_ks (t : σ) (s : PS) (n : Int) : (pflush D t s n).2.1.ks = s.ks ∧ (pflush D t s n).2.1.ck = s.ck := by
  unfold pflush
  split
  · split
    · exact ⟨rfl, rfl⟩
    · split <;> exact ⟨rfl, rfl⟩
  · exact ⟨rfl, rfl⟩
end
end Go.Proofs.Ytlbeaoglkhfdcaa
